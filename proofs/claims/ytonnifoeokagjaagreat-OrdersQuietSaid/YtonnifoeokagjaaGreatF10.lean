/- The theorem quiet_holds of OrdersQuiet: part 10 of its proof; no conditions. -/
import Derived.Test.YtonnifoeokagjaaGreatF09
import Derived.Laws.StructEq
namespace Go.Proofs.YtonnifoeokagjaaGreat
set_option linter.all false
set_option maxRecDepth 8000
open Go Go.RowKit
open Option renaming some->J,none->B
open Bool renaming true->M,false->R
open List renaming length->O
open Tryz
open Nat(reduceAdd reduceMul)
namespace br
noncomputable section
variable{aO z:Hd}{h Q h0:aE}{Y:Nat}{p':bp}
def eA.from{n0:Nat}{o q o' l l':Nat->Prop}{p:bp}(a:eA Y (λb=>o b\/q b) o' l l' p p' h Q)(hq:∀b,q b->n0<=b)(G:∀b,b<n0->¬o b->b≠p.pb->b≠p.gb->b≠p.fb->N h b=N h0 b)(hn:n0<=Y):eA n0 o o' l l' p p' h0 Q:=by
 refine⟨a.pb,a.gb,a.fb,a.fl,a.fr,λb D=>?_,a.slt,λb D oO g1 g2 g3=>?_⟩
 .obtain (r|r)|r:=a.bl b D;.exact .inl r
  .exact .inr (hq b r)
  .exact .inr U
 .rw[a.aW b U (λe=>by
   obtain e|e:=e;.exact oO e
   .have:=hq b e;omega) g1 g2 g3]
  exact G b D oO g1 g2 g3
def AW.val{t p}(o:AW t p h Y){e:iB Ax}(V:e∈t.a.es){x:Ax}(hk:x.k=e.x.k):
 AW {t with a:={t.a with es:=jC t.a.es e.X x}} p (aI h e.bT (.cells (u64 e.bo::x.cells) 300)) Y/\
 eA Y t.own ({t with a:={t.a with es:=jC t.a.es e.X x}}:At).own t.a.sl ({t.a with es:=jC t.a.es e.X x}:Ar Ax).sl p p h (aI h e.bT (.cells (u64 e.bo::x.cells) 300)):=by
 have EG:t.a.own e.bT:=Ar.ye V;have L:∀f∈jC t.a.es e.X x,∃g∈t.a.es,g.X=f.X/\g.x.k=f.x.k:=by
  intro f hf;have⟨g,hg,e1,e2,e3,e4,e5⟩:=fO hf;by_cases hq:g.X=e.X;.have W:=e4 hq;have F:g=e:=kK o.tk.ok.ng hg V hq;exact⟨g,hg,e1,by rw[W,hk,F]⟩
  .exact⟨g,hg,e1,by rw[e5 hq]⟩
 have cD:∀g∈t.a.es,∀b,g.x.k.own b->b≠e.bT:=λg hg b D e'=>(o.tk.kd g hg b D).2 (e'▸EG);have AY:∀b,({t with a:={t.a with es:=jC t.a.es e.X x}}:At).own b->t.own b:=by
  rintro b (e1|e1|⟨f,hf,e1⟩);.exact .inl e1
  .exact .inr (.inl (Ar.qm.1 e1))
  .have⟨g,hg,_,q⟩:=L f hf;rw[<-q]at e1;exact FF ⟨g,hg,e1⟩
 have Lx:=o.sd e.bT (.inr (.inl EG));refine⟨⟨⟨?_,o.tk.ok.store V x,o.tk.d1,o.tk.d2,λf hf=>?_,o.tk.lt,λf hf=>?_,λf hf b D=>?_,λf hf g hg cD b D iQ=>?_⟩,o.pk.jw ?_ ?_ ?_ (an _),o.sp.upd _ _,λb D=>o.sd b (AY b D)⟩,⟨Z,Z,Z,Z,λ_ h=> .inl h,λb D=> .inl (AY b D),λs h=> .inl (Ar.IN.1 h),λb D oO _ _ _=>?_⟩⟩;.rw[aj,ak (o.tk.d3 e V).symm];exact o.tk.tr
 .exact auV
 .have⟨g,hg,_,q⟩:=L f hf;rw[<-q];exact(o.tk.kn g hg).aW (λb D=>by rw[Xg (cD g hg b D)]) (an _)
 .have⟨g,hg,_,q⟩:=L f hf;exact aud
 .have⟨f1,Vy,e1,q⟩:=L f hf;have⟨g1,MU,e2,r⟩:=L g hg;exact aue
 .rw[Xg Lx.1.symm]
 .rw[Xg Lx.2.1.symm]
 .rw[Xg Lx.2.2.symm]
 .have:b≠e.bT:=λe'=>oO (.inr (.inl (e'▸EG)));rw[Xg this]
def AW.tree{t p}(o:AW t p h Y)(aO)(size:Int):
 AW {t with aO:=aO,size:=size} p (aI h t.tb (.cells [.ptr t.a.pb 0,.ptr t.a.ab 0,int aO.X,u64 aO.bo,.g (.int .i64 size),bW R] 258)) Y/\
 eA Y t.own t.own t.a.sl t.a.sl p p h (aI h t.tb (.cells [.ptr t.a.pb 0,.ptr t.a.ab 0,int aO.X,u64 aO.bo,.g (.int .i64 size),bW R] 258)):=by
 have Lx:=o.sd t.tb (.inl Z);have z:∀b,t.a.own b->b≠t.tb:=by
  rintro b (e|e|⟨f,hf,e⟩);.rw[e];exact o.tk.d1.symm
  .rw[e];exact o.tk.d2.symm
  .rw[<-e];exact o.tk.d3 f hf
 refine⟨⟨⟨iA,o.tk.ok.jw (λb D=>by rw[Xg (z b D)]) (an _),o.tk.d1,o.tk.d2,o.tk.d3,o.tk.lt,λe V=>(o.tk.kn e V).aW (λb D=>by rw[aj,ak (o.tk.kd e V b D).1]) (an _),o.tk.kd,o.tk.kk⟩,o.pk.jw ?_ ?_ ?_ (an _),o.sp,o.sd⟩,⟨Z,Z,Z,Z,λ_ h=> .inl h,λ_ h=> .inl h,λ_ h=> .inl h,λb _ oO _ _ _=>by rw[Xg (λe=>oO (.inl e))]⟩⟩;.rw[Xg Lx.1.symm]
 .rw[Xg Lx.2.1.symm]
 .rw[Xg Lx.2.2.symm]
def AW.take{t}{p:bp}(o:AW t p h Y)(A:p.fr.count M≠0)(x:Ax):
 UP 131 [.ptr t.a.ab 0,x.av] h Y λv Q E=>∃i bT p',ct t.a.es i=B/\v= .dY [.agg [int i,u64 (p.gs.getD i 0:Nat)],int 0]/\p'.ok Q E/\
  Qx.ok {t.a with ck:=t.a.ck+1,es:=t.a.es++[⟨i,bT,t.a.ck,p.gs.getD i 0,x⟩]} Q E/\Sep {t.a with ck:=t.a.ck+1,es:=t.a.es++[⟨i,bT,t.a.ck,p.gs.getD i 0,x⟩]} p'/\
  Y<=bT/\bT<E/\p'.fr.count M+1=p.fr.count M/\
  eA Y t.own (λb=>t.own b\/b=bT) t.a.sl ({t.a with ck:=t.a.ck+1,es:=t.a.es++[⟨i,bT,t.a.ck,p.gs.getD i 0,x⟩]}:Ar Ax).sl p p' h Q/\(∀b,t.own b->b≠t.a.mb->N Q b=N h b):=by
 refine(aqQ t.a p h Y o.tk.ok o.pk o.sp A x).mono _ ?_;rintro v Q E ⟨i,bT,H,ht,rfl,q1,q2,q3,q4⟩;have oO:∀e∈t.a.es,e.X≠i:=λe V G=>by have:=(o.sp.taken e V).2;rw[G,ht]at this;cases this
 have wI:∀s,(p.fr.set i R).getD s R=R\/(p.fr.set i R).getD s R=p.fr.getD s R:=by
  exact aul
 have a1:=o.pk.tD;have a2:=o.pk.tJ;have a3:=o.pk.tM;have iQ:=(q2.fr ⟨i,bT,t.a.ck,p.gs.getD i 0,x⟩ bR).2.2;refine⟨i,bT,{p with fr:=p.fr.set i R},rC oO,Z,q1,q2,⟨o.sp.pb,o.sp.sa,o.sp.sm,λe V=>?_,λe V=>?_⟩,q3,iQ,count_set H ht,⟨Z,Z,Z,bR,λs G=> .inl ?_,λb D=>D.imp id (λe=>U),λs G=>?_,λb D oO g1 g2 g3=>q4 b D g1 g2 g3 (λe=>oO (.inr (.inl (.inr (.inl e)))))⟩,λb D hm=>?_⟩
 .obtain V|V:=bN.1 V;.exact o.sp.sc e V
  .simp only[aV]at V;subst V;show bT≠p.pb/\bT≠p.gb/\bT≠p.fb;omega
 .exact atk
 .obtain h|h:=wI s;.exact h
  .exact h.trans G
 .obtain⟨e,V,rfl⟩:=G;exact auc
 .have:=o.sd b D;exact q4 b (o.tk.dL D) this.1 this.2.1 this.2.2 hm
def nT{a:Ar Ax}(ok:Qx.ok a h Y){n}(G:ct a.es z.X=J (z.bo,n)):
 ∃e∈a.es,e.X=z.X/\e.bo=z.bo/\e.x=n/\N h e.bT=J (.cells (u64 z.bo::n.cells) 300)/\e.bT<Y/\∀Q E,aG Y h Q->Y<=E->UP 278 [.ptr a.ab 0,.agg [int z.X,u64 z.bo]] Q E (dG (.dY [.ptr e.bT 1,bW M]) Q E):=by
 have⟨e,V,W,F,h3⟩:=kz G;refine⟨e,V,W,F,h3,?_,(ok.fr e V).2.2,?_⟩;.rw[<-F,<-h3];exact ok.cl e V
 .intro Q E q1 q2;have:=afq a Q E (ok.aW q1 q2) e V;rw[Hd.av,Hd.cells,W,F]at this;exact this
def QV(t:At)(h Y)(ok:t.ok h Y):UP 273 [.ptr t.tb 0] h Y (dG (bW R) h Y):=by refine az.ac 1 T0 func273 ?_;refine Y8 f273.eq_1 ok.tr ?_;exact⟨Z,Z,Z⟩
def ak7:=RB [(1,[MO z4 5,MO [6,7,8] 9,MO [] 10,RX])]
def ad7(tb)(a:Ar Ax)(h Y){size}(tr:N h tb=J (.cells [.ptr a.pb 0,.ptr a.ab 0,int aO.X,u64 aO.bo,.g (.int .i64 size),bW R] 258))(dc:tb<Y)(ok:Qx.ok a h Y){e:iB Ax}(V:e∈a.es)(W:e.X=z.X)(F:e.bo=z.bo):
 UP 275 [.ptr tb 0,.agg [int z.X,u64 z.bo]] h Y (dG (.ptr e.bT 1) h Y):=by
 have hf:=ok.fr e V;refine az.pc 2 ak7 func275 ?_;have c:∀n,Y<=n->UP 278 [.ptr a.ab 0,.agg [int z.X,u64 z.bo]] (aI h Y (.cells z.cells 245)) n _:=λn hn=>by have c:=afq a (aI h Y (.cells z.cells 245)) n (ok.aW (aG.refl.set (an _)) hn) e V;rw[Hd.av,Hd.cells,W,F]at c;exact c
 refine L6 f275.eq_1 ak7.eq_1 tr (U:¬(tb=Y)) ?_;refine Av (c _ U) ?_;exact .of (aG.refl.set (an _)) (.cw hf.2.2)
def Fv(t:At)(h Y)(ok:t.ok h Y){e:iB Ax}(V:e∈t.a.es)(W:e.X=z.X)(F:e.bo=z.bo):
 UP 275 [.ptr t.tb 0,.agg [int z.X,u64 z.bo]] h Y (dG (.ptr e.bT 1) h Y):=ad7 t.tb t.a h Y ok.tr ok.lt ok.ok V W F
variable{b cap i:Nat}
def te{l:aY}(h:i<=O l):fW prog 9 (cg l) (J (int i)) B=J (cg (l.drop i)):=by rw[Bj PY (a:=i) (b:=O l) (.inr Z) (.inl ⟨Z,Z⟩) h (an _),aH (by rw[aC];exact an _)]
def Xd{b:UInt8}{l}:fW prog 9 (cg (b::l)) (J (int 1)) B=J (cg l):=te (i:=1) bR
def Pz{l:aY}(h:i<=O l):fW prog 9 (cg l) B (J (int i))=J (cg (l.take i)):=by rw[Bj PY (a:=0) (b:=i) (.inl ⟨Z,Z⟩) (.inr Z) (aQ _) h];rfl
def aoZ{b:UInt8}{l}:so prog 9 (cg (b::l)) (int 0)=J (.val (u8 (b.toNat:Nat))):=GR (k:=0) PY bR
def agm(r:Option (List UInt8)):Option u:=match r with
 |some l=>J (cg l)
 |none=>B
def apU{off len}:nA prog h 46 9 (.sl b off len cap)=agm ((dt h b off len).bind pD):=by
 show C6 prog h 46 9 b off len=_;unfold C6;rw[yz,PY];show(match prog.underlying 5 with|some (.int .u8)=>_|_=>B)=_;rw[Yj];show(match dt h b off len with|some cs=>_|none=>B)=_;cases dt h b off len with
 |none=>rfl
 |some cs=>show(match pD cs with|some l=>_|none=>B)=agm (pD cs);cases pD cs<;>rfl
def ajY{b:UInt8}:pD [u8 (b.toNat:Nat)]=J [b]:=by have h:=b.toNat_lt;simp only[pD];simp[Oe]
def QX{l}:agm (J l)=J (cg l):=bQ Z
attribute[go_sem] te Xd Pz aoZ apU ajY QX
structure vq(t t':At):Prop where
 tb:t'.tb=t.tb
 ab:t'.a.ab=t.a.ab
 mb:t'.a.mb=t.a.mb
 pb:t'.a.pb=t.a.pb
 aO:t'.aO=t.aO
def vq.refl(t):vq t t:=⟨Z,Z,Z,Z,Z⟩
def vq.trans{t t' t''}(a:vq t t')(b:vq t' t''):vq t t'':=⟨b.tb.trans a.tb,b.ab.trans a.ab,b.mb.trans a.mb,b.pb.trans a.pb,b.aO.trans a.aO⟩
def AW.alloc{t p}(o:AW t p h Y)(A:p.fr.count M≠0)(x:Ax)(hk:x.k.ok h Y)(sD:∀b,x.k.own b->¬t.own b/\b≠p.pb/\b≠p.gb/\b≠p.fb):
 UP 131 [.ptr t.a.ab 0,x.av] h Y λv Q E=>∃(t':At) (p':bp) (z:Hd),ct t.a.es z.X=B/\v= .dY [.agg [int z.X,u64 z.bo],int 0]/\AW t' p' Q E/\vq t t'/\t'.size=t.size/\
  eA Y (λb=>t.own b\/x.k.own b) t'.own t.a.sl t'.a.sl p p' h Q/\ct t'.a.es=up (ct t.a.es) z.X (z.bo,x)/\p'.fr.count M+1=p.fr.count M:=by
 refine(o.take A x).mono _ ?_;rintro v Q E ⟨i,bT,p',f1,rfl,q1,q2,q3,q4,q5,q6,S,q7⟩;have hxk:∀b,x.k.own b->N Q b=N h b:=λb D=>by have:=sD b D;exact S.aW b (hk.SI b D) this.1 this.2.1 this.2.2.1 this.2.2.2
 have jk:∀f∈t.a.es++[⟨i,bT,t.a.ck,p.gs.getD i 0,x⟩],f∈t.a.es\/(f.X=i/\f.bT=bT/\f.x=x):=by
  intro f hf;obtain hf|hf:=bN.1 hf
  .exact .inl hf
  .simp only[aV]at hf;subst hf;exact .inr ⟨Z,Z,Z⟩
 have N5:∀b,({t.a with ck:=t.a.ck+1,es:=t.a.es++[⟨i,bT,t.a.ck,p.gs.getD i 0,x⟩]}:Ar Ax).own b->t.a.own b\/b=bT:=by
  rintro b (e|e|⟨f,hf,e⟩);.exact .inl (.inl e)
  .exact .inl (.inr (.inl e))
  .obtain h|⟨_,h,_⟩:=jk f hf;.exact .inl (FF ⟨f,h,e⟩)
   .exact .inr (by rw[<-e,h])
 have arP:∀b,t.own b->b<Y:=λb D=>o.tk.dL D;refine⟨{t with a:={t.a with ck:=t.a.ck+1,es:=t.a.es++[⟨i,bT,t.a.ck,p.gs.getD i 0,x⟩]}},p',⟨i,p.gs.getD i 0⟩,f1,Z,⟨⟨?_,q2,o.tk.d1,o.tk.d2,λf hf=>?_,?_,λf hf=>?_,λf hf b D=>?_,λf hf g hg cD b D iQ=>?_⟩,q1,q3,λb D=>?_⟩,⟨Z,Z,Z,Z,Z⟩,Z,⟨S.pb,S.gb,S.fb,S.fl,S.fr,λb D=>?_,S.slt,λb D oO=>S.aW b D (λe=>oO (.inl e))⟩,?_,q6⟩;.show N Q t.tb=_;rw[q7 _ (.inl Z) o.tk.d2];exact o.tk.tr
 .obtain h|⟨_,h,_⟩:=jk f hf;.exact o.tk.d3 f h
  .rw[h];have:=o.tk.lt;show bT≠t.tb;omega
 .have:=o.tk.lt;show t.tb<E;omega
 .obtain h|⟨_,_,h⟩:=jk f hf;.exact(o.tk.kn f h).aW (λb D=>q7 b (FF ⟨f,h,D⟩) ((λe V b D e'=>(o.tk.kd e V b D).2 (.inr (.inl e'))) f h b D)) U
  .rw[h];exact hk.aW hxk U
 .have yL:b<Y:=by
   obtain h|⟨_,_,h⟩:=jk f hf;.exact(o.tk.kn f h).SI b D
   .rw[h]at D;exact hk.SI b D
  obtain h|⟨_,_,h⟩:=jk f hf
  .refine⟨(o.tk.kd f h b D).1,λe=>?_⟩;obtain r|r:=N5 b e
   .exact(o.tk.kd f h b D).2 r
   .omega
  .rw[h]at D;refine⟨λe=>(sD b D).1 (.inl e),λe=>?_⟩;obtain r|r:=N5 b e
   .exact(sD b D).1 (.inr (.inl r))
   .omega
 .rcases jk f hf with W|⟨s1,_,W⟩<;>obtain F|⟨s2,_,F⟩:=jk g hg;.exact o.tk.kk f W g F cD b D iQ
  .rw[F]at iQ;exact(sD b iQ).1 (FF ⟨f,W,D⟩)
  .rw[W]at D;exact(sD b D).1 (FF ⟨g,F,iQ⟩)
  .exact cD (s1.trans s2.symm)
 .have hf:=S.fb;rw[S.pb,S.gb,hf];have a1:=o.pk.tD;have a2:=o.pk.tJ;have a3:=o.pk.tM;obtain e|e|⟨f,hf,e⟩:=D
  .exact o.sd b (.inl e)
  .obtain r|r:=N5 b e;.exact o.sd b (.inr (.inl r))
   .exact⟨U,U,U⟩
  .obtain h|⟨_,_,h⟩:=jk f hf;.exact o.sd b (FF ⟨f,h,e⟩)
   .rw[h]at e;exact(sD b e).2
 .obtain e|e|⟨f,hf,e⟩:=D;.exact .inl (.inl (.inl e))
  .obtain r|r:=N5 b e;.exact .inl (.inl (.inr (.inl r)))
   .exact .inr U
  .obtain h|⟨_,_,h⟩:=jk f hf;.exact .inl (.inl (FF ⟨f,h,e⟩))
   .rw[h]at e;exact .inl (.inr e)
 .exact atT
def ahF:=RB [(1,[([0,1,2,3,4,5,6,13],[3],J 7),([8],[3,13],J 9),([10,11,12],[13],J 14),MO [] 15,RX]),(2,[MO [0,1,6,7,8] 2,([3,4,5],[8],J 9),RX])]
def ann(t p h Y)(o:AW t p h Y)(A:p.fr.count M≠0)(z:Hd)(n)(G:ct t.a.es z.X=J (z.bo,n))(b:UInt8)(r v:aY)(hr:O r<60000):
 UP 288 [.ptr t.tb 0,z.av,cg (b::r),cg v] h Y λw Q E=>w= .dY []/\∃t' p' x k0 k1,ct t.a.es x.X=B/\k0.l=[]/\k1.l=pz n.k.l b x/\AW t' p' Q E/\vq t t'/\
  eA Y t.own t'.own t.a.sl t'.a.sl p p' h Q/\ct t'.a.es=up (up (ct t.a.es) x.X (x.bo,⟨r,v,M,k0⟩)) z.X (z.bo,{n with k:=k1})/\p'.fr.count M+1=p.fr.count M/\t'.size=cO .i64 (t.size+1):=by
 have dc:=o.tk.lt;refine az.ac 4 ahF func288 ?_;have d0:∀q,¬(Y=Y+1+q):=λq=>U;refine YM f288.eq_1 ahF.eq_1 o.tk.tr (U:¬(t.tb=Y)) (λq=>U:∀q,¬(t.tb=Y+1+q)) @Hd.av.eq_1 @Hd.cells.eq_1 ?_;generalize tU:Y+1+Array.size _=n0;have Xt:Y+1+16=n0:=tU;generalize hH:aI (aI h Y _) (Y+1+13) _=hi;have Ja:aG Y h hi:=by
  rw[<-hH]
  exact ata
 refine cm (af5 hi n0) λ_ W cC l1 ⟨k0,e0,k0l,k0ok,Fa,k0own⟩=>?_
 subst e0;have o1:AW t p W cC:=o.aW (Ja.trans (Fa.le (U:Y<=n0)) (an _)) U;have g2:=(Fa _ U).trans (TZ hH)
 have g3:=(Fa _ U).trans (U9 hH Tb (d0 _))
 refine Y8 (o1.tk.tr:N W t.tb=_) g2 ?_;have sD:∀b,k0.own b->¬t.own b/\b≠p.pb/\b≠p.gb/\b≠p.fb:=λb D=>by have a0:=k0own b D;have a1:=o.pk.tD;have a2:=o.pk.tJ;have a3:=o.pk.tM;exact⟨λe=>by have:=o.tk.dL e;omega,U,U,U⟩
 refine cm (o1.alloc A ⟨r,v,M,k0⟩ k0ok sD) λ_ F dR l2 ⟨t2,p2,x,f1,f2,o2,E2,f3,S2,f4,f5⟩=>?_;subst f2;have kU:z.X≠x.X:=λe'=>by rw[e',f1]at G;cases G
 have nB:ct t2.a.es z.X=J (z.bo,n):=by rw[f4,cT kU];exact G
 have old:∀b,b<n0->Y<=b->N F b=N W b:=λb D iQ=>by
  have a1:=o.pk.tD;have a2:=o.pk.tJ;have a3:=o.pk.tM;refine S2.aW b U (λe=>?_) U U U;obtain e|e:=e
  .have:=o.tk.dL e;omega
  .have:=k0own b e;omega
 have k2:=(old _ U U).trans g3
 refine L6 ahF.eq_1 ((old _ U U).trans g2) k2 d0 ?_;have⟨e,V,e1,e2,e3,e4,e5,_⟩:=nT o2.tk.ok nB;have sm2:∀o',aG dR F (aI F (Y+1+13) o')->True:=λ_ _=>trivial;have oO:∀c,t2.own c->c≠Y+1+13:=λc A e'=>by
  obtain (q|q)|q:=S2.bl c A;.have:=o.tk.dL q;omega
  .have:=k0own c q;omega
  .omega
 generalize hG:aI F (Y+1+13) _=hs;have G1:∀c,c≠Y+1+13->N hs c=N F c:=λc A=>by rw[<-hG,Xg A]
 have pl:∀c,c<Y->c≠Y+1+13:=λc A=>U
 have a1:=o.pk.tD;have a2:=o.pk.tJ;have a3:=o.pk.tM;have o3:AW t2 p2 hs dR:=⟨o2.tk.aW (λc A=>G1 c (oO c A)) (an _),o2.pk.jw (G1 _ (Es S2.pb)) (G1 _ (Es S2.gb)) (G1 _ (Es S2.fb)) (an _),o2.sp,o2.sd⟩;have c:∀q,dR<=q->UP 275 [.ptr t.tb 0,.agg [int z.X,u64 z.bo]] hs q (dG (.ptr e.bT 1) hs q):=λq hq=>E2.tb▸(Fv t2 hs q (o3.aW aG.refl hq).tk V e1 e2)
 refine bc (c _ U) ?_
 have G2':=(G1 _ U).trans k2
 refine J7 ((G1 _ (oO _ (.inr (.inl (Ar.ye V))))).trans e4) (TZ hG) @Ax.cells.eq_1 ?_;generalize hq:dR+Array.size _=nq;have qf:dR<=nq:=U;have o4:=o3.aW (aG.refl) qf
 refine cm (aiB n.k b x hs nq (e3▸(o4.tk.kn e V))) λ_ h3 nx3 l3 ⟨⟨_,ev⟩,DT,r1,r2,St⟩=>?_;subst ev
 have⟨o5,S5⟩:=o4.bu V r2 (e3▸St) (an _) l3;rw[e3]at o5 S5;have tr5:=o5.tk.tr;simp only[E2.tb]at tr5;refine Xf tr5 ?_;have⟨o6,S6⟩:=o5.tree t2.aO (cO .i64 (t2.size+1));rw[<-E2.tb];have S2':eA Y t.own t2.own t.a.sl t2.a.sl p p2 h F:=S2.from (λb D=>by have:=k0own b D;omega) (λb D _ _ _ _=>by rw[Fa b U,Ja b D]) U;refine⟨_,p2,x,k0,DT,f1,k0l,r1,o6,⟨E2.tb,E2.ab,E2.mb,E2.pb,E2.aO⟩,((S2'.trans (eA.same λc A=>G1 c U) (an _)).trans S5 U).trans S6 U,?_,f5,by rw[<-f3]⟩;show ct (jC t2.a.es e.X {n with k:=DT})=_;rw[qW o2.tk.ok.ng V,e1,e2,f4]
def Ea{fr:List Bool}(H:i<O fr)(hf:fr.getD i R=R):(fr.set i M).count M=fr.count M+1:=by
 have:=count_set (fr:=fr.set i M) (i:=i) (Mf H) (by simp[List.getD,H]);have e:(fr.set i M).set i R=fr:=by
  rw[List.set_set];refine iX λj=>?_;rw[sU];split
  .rename_i h;subst h;have:fr[i]=R:=by simpa[List.getD,H]using hf
   simp[H,this]
  .rfl
 rw[e]at this;omega
def YT(n:Nat):∃m:Nat,cO .u64 ((n:Int)+1)=(m:Int):=by refine⟨(((n:Int)+1)%18446744073709551616).toNat,?_⟩;rw[je];unfold IntKind.wrap;show(if(R&&_)=M then _ else((n:Int)+1)%(2^64:Int))=_;simp only[pS];show((n:Int)+1)%18446744073709551616=_;omega
def aoE(p:bp)(h Y)(ok:p.ok h Y)(i:Nat)(H:i<O p.fr)(hf:p.fr.getD i R=R):
 UP 295 [.ptr p.pb 0,int i] h Y λv Q E=>v= .dY []/\∃CF,({p with gs:=CF,fr:=p.fr.set i M}:bp).ok Q E/\aez Y p h Q:=by
 have mA:=ok.small;have zk:=GM (a:=M) (l:=p.fr);have NS:p.fr.count M+1<9223372036854775808:=U;have hig:i<O p.gs:=ok.len▸H
 have⟨m,hm⟩:=YT (p.gs.getD i 0);have hgn:gn (p.gs.getD i 0)=u64 (p.gs.getD i 0:Nat):=rfl;have yf:=Hw (f:=bW) H M;have nB:=Hw (f:=gn) hig m;have hgm:gn m=u64 (m:Nat):=rfl;rw[hgm]at nB;have n1:=ok.ne1;have n2:=ok.ne2;have n3:=ok.ne3;have n1':¬(p.gb=p.pb):=λe=>n1 e.symm;have WO:¬(p.fb=p.pb):=λe=>n2 e.symm;have n3':¬(p.fb=p.gb):=λe=>n3 e.symm;refine az.ac 2 T0 func295 ?_;simp+decide-dsimp only[f295,go_sem,ok.a,ok.f,ok.g,H,yf,Ih (f:=gn) (d:=0) hig,hgn,hm,nB,NS,n1,n2,n3];refine⟨p.gs.set i m,⟨?_,?_,?_,?_,?_,n1,n2,n3,ok.tD,ok.tJ,ok.tM⟩,λb D W F h3=>?_⟩;.rw[Sr];simp only[fG];rw[Ea H hf]
 .rw[Xg n1',Sr]
 .rw[Xg WO,Xg n3',Sr]
 .show O (p.gs.set i m)=_;simp[ok.len]
 .show O (p.fr.set i M)<=_;simpa using ok.small
 .rw[Xg W,Xg F,Xg h3]
variable{c j:Nat}{t:TypeId}
def akV(h:aE)(b:Nat)(k:u)(o:Option AO):Option ER:=match o with
 |some (.map es c)=>mz (GH h b es c (jB (.int .i64) k es 0))
 |_=>B
def aix{k}:xw prog h #[295,t] (.mp b) k=akV h b k (N h b):=by
 show(match prog.underlying 295 with|some (.map kt _)=>_|_=>B)=_;rw[NV];show(match prog.underlying 3 with|some kd=>_|none=>B)=_;rw[Fy];show(match N h b with|some (.map es clock)=>_|_=>B)=_;exact avo
def Uk{k es}:akV h b k (J (.map es c))=mz (GH h b es c (jB (.int .i64) k es 0)):=bQ Z
def Rz{v es}:GH h b es c (J (J (j,v)))=J (aI h b (.map (es.eraseIdx j) c)):=bQ Z
attribute[go_sem] aix Uk Rz
def Lb{α:Type}{e:iB α}:∀(es:List (iB α)) (i:Nat),e∈es->(∀e'∈es,e'.X=e.X->e'=e)->∃j,es[j]?=J e/\jB (.int .i64) (int e.X) (es.map iB.row) i=J (J (i+j,.ptr e.bT 0))
 |[],_,h,_=>by cases h
 |f::es,i,h,hu=>by
  by_cases hf:f.X=e.X;.have:f=e:=hu f bR hf;subst this;refine⟨0,Z,?_⟩;show(match za (.int .i64) (int f.X) (int f.X)with|some M=>_|some R=>_|none=>B)=_;rw[Cv];simp[iB.row]
  .have V:e∈es:=by
    obtain h|h:=bJ.1 h;.exact absurd (by rw[h]) hf
    .exact h
   have⟨j,W,F⟩:=Lb es (i+1) V λe' tN G=>hu e' (by simp[tN]) G;refine⟨j+1,by simpa using W,?_⟩;show(match za (.int .i64) (int e.X) (int f.X)with|some M=>_|some R=>_|none=>B)=_;rw[Cv,aU (Ne.symm hf)];show jB _ _ _ _=_;rw[F];congr 3;omega
def alO:=RB [(4,[MO z5 6,RX]),(5,[MO z5 6,RX])]
def ang(t p h Y)(o:AW t p h Y)(z:Hd)(n)(G:ct t.a.es z.X=J (z.bo,n)):
 UP 284 [.ptr t.a.ab 0,.agg [int z.X,u64 z.bo]] h Y λv Q E=>v=bW M/\∃t' p',AW t' p' Q E/\vq t t'/\t'.size=t.size/\
  eA Y t.own t'.own t.a.sl t'.a.sl p p' h Q/\ct t'.a.es=pR (ct t.a.es) z.X B/\p'.fr.count M=p.fr.count M+1/\
  (∀g∈t'.a.es,g∈t.a.es)/\(∀b,t.own b->b≠t.a.mb->N Q b=N h b):=by
 have⟨e,V,g1,g2,g3⟩:=kz G;have ok:=o.tk.ok;have⟨j,hj,hf⟩:=Lb t.a.es 0 V λe' tN G=>kK ok.ng tN V G;have c:=alo t.a (aI h Y (.cells [int e.X,u64 e.bo] 245)) (Y+1) (ok.aW (aG.refl.set (an _)) U) e V;rw[Hd.av,Hd.cells]at c;rw[<-g1,<-g2];refine az.ac 2 alO func284 (Xf f284.eq_1 ?_);refine bc c ?_;have X4:=ok.la;have RE:=ok.lm;have hmb:=o.sd t.a.mb (.inr (.inl (.inr (.inl Z))));have a1:=o.pk.tD;have a2:=o.pk.tJ;have a3:=o.pk.tM;have vz:=o.sp.taken e V;refine asA alO.eq_1 ok.ar ok.mp (U:¬(t.a.ab=Y)) (U:¬(t.a.mb=Y)) (U:¬(Y=t.a.mb)) ok.ne hf o.sp.pb ?_;generalize hH:aI (aI h Y _) t.a.mb _=hi;have H1:∀b,b≠Y->b≠t.a.mb->N hi b=N h b:=λb W F=>by rw[<-hH,Xg F,Xg W]
 refine cm (aoE p hi _ (o.pk.jw (H1 _ U hmb.1.symm) (H1 _ U hmb.2.1.symm) (H1 _ U hmb.2.2.symm) U) e.X vz.1 vz.2) λ_ F dR l2 ⟨ev,CF,q1,q2⟩=>?_
 subst ev;simp+decide-dsimp only[go_sem];have arX:Y<dR:=U;have hk:∀b,b<Y->b≠t.a.mb->b≠p.pb->b≠p.gb->b≠p.fb->N F b=N h b:=λb W F h3 h4 h5=>by rw[q2 b U h3 h4 h5];exact H1 b U F
 have Tv:∀b,t.own b->b≠t.a.mb->N F b=N h b:=λb D hm=>by have:=o.sd b D;exact hk b (o.tk.dL D) hm this.1 this.2.1 this.2.2
 have jk:∀f∈t.a.es.eraseIdx j,f∈t.a.es/\f.X≠e.X:=λf hf=>by
  have⟨i,H,e'⟩:=cN.1 hf;rw[EX]at e';have key:∀q,q≠j->(hq:q<O t.a.es)->t.a.es[q]=f->f∈t.a.es/\f.X≠e.X:=λq hqj hq e'=>by
   have hm:f∈t.a.es:=e'▸(bO hq)
   refine⟨hm,λG=>?_⟩;have⟨Qi,ej⟩:=dD.1 hj;have:=ok.ng;have W:(t.a.es.map iB.X)[q]'(by simpa using hq)=(t.a.es.map iB.X)[j]'(by simpa using Qi):=by simp[e',ej,(kK ok.ng hm V G:f=e)]
   rcases Nat.lt_or_gt_of_ne hqj with w|w;.exact(iN.1 this) q j _ _ w W
   .exact(iN.1 this) j q _ _ w W.symm
  split at e';.rename_i dc;exact key i U _ e'
  .rename_i dc;exact key (i+1) U _ e'
 have agi:(t.a.es.eraseIdx j).Sublist t.a.es:=List.eraseIdx_sublist _ _;have FI:∀b,({t with a:={t.a with es:=t.a.es.eraseIdx j}}:At).own b->t.own b:=by
  rintro b (e1|(e1|e1|⟨f,hf,e1⟩)|⟨f,hf,e1⟩);.exact .inl e1
  .exact .inr (.inl (.inl e1))
  .exact .inr (.inl (.inr (.inl e1)))
  .exact .inr (.inl (FF ⟨f,(jk f hf).1,e1⟩))
  .exact FF ⟨f,(jk f hf).1,e1⟩
 have N5:∀b,({t.a with es:=t.a.es.eraseIdx j}:Ar Ax).own b->t.a.own b:=by
  rintro b (e1|e1|⟨f,hf,e1⟩);.exact .inl e1
  .exact .inr (.inl e1)
  .exact FF ⟨f,(jk f hf).1,e1⟩
 have wI:∀s,s≠e.X->(p.fr.set e.X M).getD s R=p.fr.getD s R:=λs G=>by simp[List.getD,Ne.symm G]
 refine⟨{t with a:={t.a with es:=t.a.es.eraseIdx j}},_,⟨⟨?_,⟨?_,?_,λf hf=>?_,?_,?_,λf hf=>?_,ok.ne,by show t.a.ab<dR;omega,by show t.a.mb<dR;omega⟩,o.tk.d1,o.tk.d2,λf hf=>o.tk.d3 f (jk f hf).1,by have:=o.tk.lt;show t.tb<dR;omega,λf hf=>?_,λf hf b D=>⟨(o.tk.kd f (jk f hf).1 b D).1,λh=>(o.tk.kd f (jk f hf).1 b D).2 (N5 b h)⟩,λf hf g hg cD=>o.tk.kk f (jk f hf).1 g (jk g hg).1 cD⟩,q1,⟨o.sp.pb,o.sp.sa,o.sp.sm,λf hf=>o.sp.sc f (jk f hf).1,λf hf=>?_⟩,λb D=>o.sd b (FI b D)⟩,⟨Z,Z,Z,Z,Z⟩,Z,⟨Z,Z,Z,bR,λs G=>?_,λb D=> .inl (FI b D),λs G=>?_,λb D oO W F h3=>hk b D (λe'=>oO (.inr (.inl (.inr (.inl e'))))) W F h3⟩,?_,Ea vz.1 vz.2,λg hg=>(jk g hg).1,Tv⟩;.rw[Tv _ (.inl Z) o.tk.d2];exact o.tk.tr
 .rw[Tv _ (.inr (.inl (.inl Z))) ok.ne];exact ok.ar
 .rw[q2 _ U hmb.1 hmb.2.1 hmb.2.2,TZ hH,xj]
 .rw[Tv _ (.inr (.inl (Ar.ye (jk f hf).1))) ((λf hf=>(ok.fr f hf).2.1) f (jk f hf).1)];exact ok.cl f (jk f hf).1
 .exact Lv (agi.map _) ok.ng
 .exact Lv (agi.map _) ok.Ll
 .have:=ok.fr f (jk f hf).1;exact⟨this.1,this.2.1,U⟩
 .exact(o.tk.kn f (jk f hf).1).aW (λb D=>Tv b (FF ⟨f,(jk f hf).1,D⟩) ((λf hf b D e'=>(o.tk.kd f hf b D).2 (.inr (.inl e'))) f (jk f hf).1 b D)) U
 .have:=o.sp.taken f (jk f hf).1;exact⟨by simpa using this.1,by show(p.fr.set e.X M).getD f.X R=R;rw[wI _ (jk f hf).2];exact this.2⟩
 .by_cases Nf:s=e.X;.exact .inr ⟨e,V,Nf.symm⟩
  .left;show(p.fr.set e.X M).getD s R=R;rw[wI s Nf];exact G
 .have⟨f,hf,e1⟩:=G;exact .inl ⟨f,(jk f hf).1,e1⟩
 .funext s
  unfold pR;split;.rename_i Nf;subst Nf;exact rC λf hf=>(jk f hf).2
  .rename_i Nf;cases hq:ct t.a.es s with
   |none=>refine rC λf hf hfs=>?_;have:=om ok.ng (jk f hf).1;rw[hfs,hq]at this;cases this
   |some y=>
    have⟨f,hf,e1,e2,e3⟩:=kz (g:=y.1) (n:=y.2) hq;have hm:f∈t.a.es.eraseIdx j:=by
     have⟨i,H,ei⟩:=cN.1 hf;have⟨Qi,ej⟩:=dD.1 hj;have EN:i≠j:=λh=>Nf (by subst h;rw[<-e1,<-ei,ej]);obtain q|q:=Nat.lt_or_gt_of_ne EN;.refine cN.2 ⟨i,by rw[List.length_eraseIdx];split<;>omega,?_⟩;rw[EX,dif_pos q];exact ei
     .refine cN.2 ⟨i-1,by rw[List.length_eraseIdx];split<;>omega,?_⟩;rw[EX,dif_neg U];have:i-1+1=i:=U;simp only[this];exact ei
    have:=om (es:=t.a.es.eraseIdx j) (Lv (agi.map _) ok.ng) hm;rw[e1,e2,e3]at this;exact this
variable{d':Nat}
def zY:Nat->Prop:=λ_=>False
def fE(n:Ax):Nat:=if n.has then 1 else 0
section
variable{σ σ':DM}{hd z':Int}{p p':bp}{C d s g i j:Nat}{x x' w:Ax}
def Acc.rel(hc:Acc fE σ hd p C d)(G:σ s=J (g,x))(h0:fE x=0)(y:σ'=pR σ s B)(e:z'=hd)(A:p'.fr.count M=p.fr.count M+1):Acc fE σ' z' p' C d:=by
 have⟨aw,zzQ,a1,a2,a3,a4,a5⟩:=hc;have:=a1.le G;have w0:∀{c:Ax->Nat},wt c (pR σ s B) s=0:=jc eS;refine⟨aw-1,zzQ,?_,U,?_,by rw[e,a4],a5⟩;.rw[y];exact a1.at (s:=s) (λt ht=>fq ht) (by rw[w0,fP G];omega)
 .rw[y];exact a3.at (s:=s) (λt ht=>fq ht) (by rw[w0,fP G,h0])
def Acc.join(hc:Acc fE σ hd p C d)(G:σ s=J (g,x))(H:σ i=J (j,w))(his:i≠s)(h0:fE x=0)(hw:fE x'=fE w)(y:σ'=pR (pR σ i B) s (J (g,x')))(e:z'=hd)(A:p'.fr.count M=p.fr.count M+1):Acc fE σ' z' p' C d:=by
 have⟨aw,zzQ,a1,a2,a3,a4,a5⟩:=hc;have:=a1.le G;have:=a3.le H;have w0:∀{c:Ax->Nat},wt c (pR σ i B) i=0:=jc eS;have w1:∀{c:Ax->Nat},wt c (pR σ i B) s=c x:=fP (g:=g) ((fq his.symm)▸G);have w2:∀{c:Ax->Nat},wt c (pR (pR σ i B) s (J (g,x'))) s=c x':=fP (g:=g) eS;refine⟨aw-1,zzQ,?_,U,?_,by rw[e,a4],a5⟩;.rw[y];exact(a1.at (zzQ:=aw-1) (s:=i) (σ':=pR σ i B) (λt ht=>fq ht) (by rw[w0,fP H];omega)).at (s:=s) (λt ht=>fq ht) (by rw[w1,w2])
 .rw[y];exact(a3.at (zzQ:=zzQ-fE w) (s:=i) (σ':=pR σ i B) (λt ht=>fq ht) (by rw[w0,fP H];omega)).at (s:=s) (λt ht=>fq ht) (by rw[w1,w2,h0,hw];omega)
def Acc.more(hc:Acc fE σ hd p C d)(G:σ s=J (g,x))(h0:fE x=0)(W:fE x'=1)(y:σ'=br.up σ s (g,x'))(z:d<50000)(e:z'=cO .i64 (hd+1)):Acc fE σ' z' p C (d+1):=by refine hc.set G y λzzQ _ hM hz=>⟨zzQ+1,?_,by rw[h0,W],U⟩;rw[e,hz,wrap_i64 U U];rfl
def Acc.same(hc:Acc fE σ hd p C d)(G:σ s=J (g,x))(h:fE x'=fE x)(y:σ'=br.up σ s (g,x'))(e:z'=hd):Acc fE σ' z' p C d:=
 hc.set G y λzzQ _ hM hz=>⟨zzQ,by rw[e,hz],by rw[h],hM⟩
def Acc.less(hc:Acc fE σ hd p C d)(G:σ s=J (g,x))(h0:fE x=1)(W:fE x'=0)(y:σ'=br.up σ s (g,x'))(z:d<50000)(e:z'=cO .i64 (hd-1)):Acc fE σ' z' p C d:=by refine hc.set G y λzzQ K hM hz=>⟨zzQ-1,?_,U,U⟩;rw[e,hz,wrap_i64 U U];omega
def Acc.grow(hc:Acc fE σ hd p C d)(G:σ s=J (g,x))(H:σ i=B)(W:fE w=1)(F:fE x'=fE x)(y:σ'=br.up (br.up σ i (j,w)) s (g,x'))(z:d<50000)(e:z'=cO .i64 (hd+1))(A:p'.fr.count M+1=p.fr.count M):Acc fE σ' z' p' C (d+1):=by
 have⟨aw,zzQ,a1,a2,a3,a4,a5⟩:=hc;have his:s≠i:=λq=>by rw[q,H]at G;cases G
 have w1:∀{c:Ax->Nat},wt c (br.up σ i (j,w)) s=c x:=fP (g:=g) ((cT his)▸G);refine⟨aw+1,zzQ+1,?_,U,?_,by rw[e,a4,wrap_i64 U U];rfl,U⟩;.rw[y];exact(a1.up (zzQ:=aw+1) (by rw[jc H])).up (by rw[w1])
 .rw[y];exact(a3.up (zzQ:=zzQ+1) (by rw[jc H];rw[W])).up (by rw[w1];rw[F])
def Acc.part(hc:Acc fE σ hd p C d)(G:σ s=J (g,x))(H:σ i=B)(hw:fE w=fE x)(A:p'.fr.count M+1=p.fr.count M)(e:∀zzQ:Nat,zzQ<=d->hd=(zzQ:Int)->z'=((zzQ+fE x':Nat):Int)/\zzQ+fE x'<=d'):Acc fE (pR (pR σ i (J (j,w))) s (J (g,x'))) z' p' C d':=by
 have⟨aw,zzQ,a1,a2,a3,a4,a5⟩:=hc;have his:s≠i:=λq=>by rw[q,H]at G;cases G
 have w1:∀{c:Ax->Nat},wt c (br.up σ i (j,w)) s=c x:=fP (g:=g) ((cT his)▸G);have⟨b1,b2⟩:=e zzQ a5 a4;refine⟨aw+1,zzQ+fE x',?_,U,?_,b1,b2⟩;.exact(a1.up (zzQ:=aw+1) (by rw[jc H])).up (x:=(g,x')) (by rw[w1])
 .exact(a3.up (zzQ:=zzQ+fE w) (by rw[jc H];rfl)).up (x:=(g,x')) (by rw[w1];show _=_+fE x';omega)
def Acc.parts(hc:Acc fE σ hd p C d)(G:σ s=J (g,x))(H:σ i=B)(hw:fE w=fE x)(W:fE x'=1)(e:z'=cO .i64 (hd+1))(z:d<50000)(A:p'.fr.count M+1=p.fr.count M):Acc fE (pR (pR σ i (J (j,w))) s (J (g,x'))) z' p' C (d+1):=
 hc.part G H hw A λzzQ hM hz=>⟨by rw[e,hz,wrap_i64 U U,W];rfl,U⟩
def Acc.ahh(hc:Acc fE σ hd p C d)(G:σ s=J (g,x))(H:σ i=B)(hw:fE w=fE x)(W:fE x'=0)(e:z'=hd)(A:p'.fr.count M+1=p.fr.count M):Acc fE (pR (pR σ i (J (j,w))) s (J (g,x'))) z' p' C d:=
 hc.part G H hw A λzzQ hM hz=>⟨by rw[e,hz,W];rfl,U⟩
end
variable{ck nx3:Nat}{h3:aE}
def Ta(Pk:aY->Prop)(t:At):Prop:=∃pa par,AI Pk (ct t.a.es) t.aO pa par zY
def AW.part{t p}(o:AW t p h Y){e f:iB Ax}(V:e∈t.a.es)(hfk:f.x.k=e.x.k)(hfs:∀g∈t.a.es,g.X≠f.X)(hfb:Y<=f.bT){H:Ax}{sz:Int}
 (q1:p'.ok h3 nx3) (q2:Qx.ok {t.a with ck:=ck,es:=t.a.es++[f]} h3 nx3) (q3:Sep {t.a with ck:=ck,es:=t.a.es++[f]} p')
 (tr:N h3 t.tb=J (.cells [.ptr t.a.pb 0,.ptr t.a.ab 0,int t.aO.X,u64 t.aO.bo,.g (.int .i64 sz),bW R] 258))
 (kk:∀b,t.own b->b≠t.tb->b≠t.a.mb->N h3 b=N h b) (hk:H.k.ok h3 nx3) (wI:∀b,H.k.own b->Y<=b/\b≠f.bT) (le:Y<=nx3)
 (S:eA Y t.own (λb=>t.own b\/b=f.bT) t.a.sl ({t.a with ck:=ck,es:=t.a.es++[f]}:Ar Ax).sl p p' h h3):
 AW {t with size:=sz,a:={t.a with ck:=ck,es:=jC (t.a.es++[f]) e.X H}} p' (aI h3 e.bT (.cells (u64 e.bo::H.cells) 300)) nx3/\
 eA Y t.own ({t with size:=sz,a:={t.a with ck:=ck,es:=jC (t.a.es++[f]) e.X H}}:At).own t.a.sl ({t.a with ck:=ck,es:=jC (t.a.es++[f]) e.X H}:Ar Ax).sl p p' h (aI h3 e.bT (.cells (u64 e.bo::H.cells) 300)):=by
 have tN:e∈t.a.es++[f]:=jn _ V;have EG:t.own e.bT:= .inr (.inl (Ar.ye V));have arj:=o.tk.dL EG;have L:∀g∈jC (t.a.es++[f]) e.X H,(g.X=e.X/\g.x=H/\g.bT=e.bT)\/(g.X≠e.X/\∃g0∈t.a.es,g0.X=g.X/\g0.bT=g.bT/\g0.x=g.x)\/(g.X=f.X/\g.X≠e.X/\g.bT=f.bT/\g.x=f.x):=by
  intro g hg;have⟨g0,FD,e1,e2,e3,e4,e5⟩:=fO hg;by_cases hq:g0.X=e.X;.have:g0=e:=kK q2.ng FD tN hq;exact .inl ⟨by rw[<-e1,hq],e4 hq,by rw[<-e2,this]⟩
  .obtain w|w:=bN.1 FD;.exact .inr (.inl ⟨by rw[<-e1];exact hq,g0,w,e1,e2,(e5 hq).symm⟩)
   .simp only[aV]at w;subst w;exact FF ⟨e1.symm,by rw[<-e1];exact hq,e2.symm,e5 hq⟩
 have N5:∀b,({t.a with ck:=ck,es:=jC (t.a.es++[f]) e.X H}:Ar Ax).own b->t.a.own b\/b=f.bT:=by
  intro b D;rcases(Ar.qm (a:={t.a with ck:=ck,es:=t.a.es++[f]})).1 D with w|w|⟨g,hg,w⟩
  .exact .inl (.inl w)
  .exact .inl (.inr (.inl w))
  .obtain v|v:=bN.1 hg;.exact .inl (FF ⟨g,v,w⟩)
   .simp only[aV]at v;subst v;exact .inr w.symm
 have kne:∀g∈t.a.es,∀b,g.x.k.own b->b≠e.bT:=λg hg b D e'=>(o.tk.kd g hg b D).2 (e'▸(Ar.ye V));have kko:∀g∈t.a.es,∀b,g.x.k.own b->N (aI h3 e.bT (.cells (u64 e.bo::H.cells) 300)) b=N h b:=λg hg b D=>by have:=o.tk.kd g hg b D;rw[Xg (kne g hg b D)];exact kk b (FF ⟨g,hg,D⟩) this.1 (λe'=>this.2 (.inr (.inl e')))
 have AY:∀b,({t with size:=sz,a:={t.a with ck:=ck,es:=jC (t.a.es++[f]) e.X H}}:At).own b->t.own b\/Y<=b:=by
  rintro b (w|w|⟨g,hg,w⟩);.exact .inl (.inl w)
  .obtain v|v:=N5 b w;.exact .inl (.inr (.inl v))
   .exact .inr U
  .obtain⟨_,v,_⟩|⟨_,g0,FD,_,_,v⟩|⟨_,_,_,v⟩:=L g hg;.rw[v]at w;exact .inr (wI b w).1
   .rw[<-v]at w;exact .inl (FF ⟨g0,FD,w⟩)
   .rw[v,hfk]at w;exact .inl (FF ⟨e,V,w⟩)
 have Ga:p'.pb=p.pb/\p'.gb=p.gb/\p'.fb=p.fb:=⟨S.pb,S.gb,S.fb⟩;have Lx:=o.sd e.bT EG;refine⟨⟨⟨?_,q2.store tN H,o.tk.d1,o.tk.d2,λg hg=>?_,by have:=o.tk.lt;show t.tb<nx3;omega,λg hg=>?_,λg hg b D=>?_,λg hg g' SQ cD b D iQ=>?_⟩,q1.jw ?_ ?_ ?_ (an _),q3.upd _ _,λb D=>?_⟩,⟨S.pb,S.gb,S.fb,S.fl,S.fr,AY,λs G=>S.slt s (Ar.IN.1 G),λb D oO g1 g2 g3=>?_⟩⟩;.rw[aj,ak (o.tk.d3 e V).symm];exact tr
 .show g.bT≠t.tb;obtain⟨_,_,v⟩|⟨_,g0,FD,_,v,_⟩|⟨_,_,v,_⟩:=L g hg
  .rw[v];exact o.tk.d3 e V
  .rw[<-v];exact o.tk.d3 g0 FD
  .have:=o.tk.lt;rw[v];omega
 .obtain⟨_,v,_⟩|⟨_,g0,FD,_,_,v⟩|⟨_,_,_,v⟩:=L g hg;.rw[v];exact hk.aW (λb D=>by rw[aj,ak (EB ((wI b D).1))]) (an _)
  .rw[<-v];exact(o.tk.kn g0 FD).aW (kko g0 FD) le
  .rw[v,hfk];exact(o.tk.kn e V).aW (kko e V) le
 .have key:∀g0∈t.a.es,g0.x.k.own b->b≠t.tb/\¬({t.a with ck:=ck,es:=jC (t.a.es++[f]) e.X H}:Ar Ax).own b:=λg0 FD w=>by
   refine⟨(o.tk.kd g0 FD b w).1,λw'=>?_⟩;obtain v|v:=N5 b w'
   .exact(o.tk.kd g0 FD b w).2 v
   .have:=(o.tk.kn g0 FD).SI b w;omega
  rcases L g hg with⟨_,v,_⟩|⟨_,g0,FD,_,_,v⟩|⟨_,_,_,v⟩
  .rw[v]at D;have W:=wI b D;refine⟨by have:=o.tk.lt;show b≠t.tb;omega,λw'=>?_⟩;obtain v|v:=N5 b w'
   .have:=o.tk.ok.dL v;omega
   .exact W.2 v
  .rw[<-v]at D;exact key g0 FD D
  .rw[v,hfk]at D;exact key e V D
 .have lt:∀g0∈t.a.es,g0.x.k.own b->b<Y:=λg0 FD w=>(o.tk.kn g0 FD).SI b w;rcases L g hg with⟨s1,v,_⟩|⟨n1,g0,FD,s1,_,v⟩|⟨s1,n1,_,v⟩<;>obtain⟨s2,w,_⟩|⟨n2,g1,MU,s2,_,w⟩|⟨s2,n2,_,w⟩:=L g' SQ
  .exact cD (s1.trans s2.symm)
  .rw[v]at D;rw[<-w]at iQ;have:=(wI b D).1;have:=lt g1 MU iQ;omega
  .rw[v]at D;rw[w,hfk]at iQ;have:=(wI b D).1;have:=lt e V iQ;omega
  .rw[<-v]at D;rw[w]at iQ;have:=(wI b iQ).1;have:=lt g0 FD D;omega
  .rw[<-v]at D;rw[<-w]at iQ;exact o.tk.kk g0 FD g1 MU (by rw[s1,s2];exact cD) b D iQ
  .rw[<-v]at D;rw[w,hfk]at iQ;exact o.tk.kk g0 FD e V (s1▸n1) b D iQ
  .rw[v,hfk]at D;rw[w]at iQ;have:=(wI b iQ).1;have:=lt e V D;omega
  .rw[v,hfk]at D;rw[<-w]at iQ;exact o.tk.kk e V g1 MU (s2▸n2.symm) b D iQ
  .exact cD (s1.trans s2.symm)
 .rw[Ga.1,Xg Lx.1.symm]
 .rw[Ga.2.1,Xg Lx.2.1.symm]
 .rw[Ga.2.2,Xg Lx.2.2.symm]
 .rw[Ga.1,Ga.2.1,Ga.2.2];have a1:=o.pk.tD;have a2:=o.pk.tJ;have a3:=o.pk.tM;obtain w|w:=AY b D
  .exact o.sd b w
  .exact⟨U,U,U⟩
 .have:b≠e.bT:=λe'=>oO (e'▸EG);rw[Xg this];exact S.aW b D oO g1 g2 g3
variable{C d:Nat}{Pk:aY->Prop}{pa:Nat->aY}{par:Nat->Nat}
def Xq:=RB [(8,[([0,1,2,3,6],[1],J 4),([5],[1,6],J 7),RX]),(10,[([0,1,2,3,4,9],[3,4],J 5),([6,7,8],[9],J 10),MO [] 11,RX]),(15,[MO [0,1,3] 2,([4],[3],J 5),RX])]
def aqR(t:At)(p:bp)(h:aE)(Y:Nat)(o:AW t p h Y)(I:AI Pk (ct t.a.es) t.aO pa par zY)(z:Hd)(n:Ax)(G:ct t.a.es z.X=some (z.bo,n))(c:Nat)(A:c<n.pre.length)(key v:aY)
 (hp:Pk (pa z.X++n.pre.take c++key)) (K:(pa z.X++n.pre.take c++key).length<=24) (cD:∀b r,key=b::r->b≠n.pre.getD c 0)  (hA:Acc fE (ct t.a.es) t.size p C d) (OK:d<50000):
 az prog 287 [.ptr t.tb 0,z.av,int c,cg key,cg v] h Y λw Q E=>(∃e:Int,w=int e)/\∃(t':At) (p':bp),AW t' p' Q E/\vq t t'/\eA Y t.own t'.own t.a.sl t'.a.sl p p' h Q/\Ta Pk t'/\Acc fE (ct t'.a.es) t'.size p' C (d+1):=by
 have dc:=o.tk.lt;have Ni:n.pre.length<=24:=by have:=I.len _ _ _ G;simp only[aq]at this;omega
 have Bc:key.length<=24:=by simp only[aq]at K;omega
 have d1:¬(t.tb=Y):=U;refine az.ac 5 Xq func287 ?_;have same:AW t p (aI h Y (.cells [int z.X,u64 z.bo] 245)) (Y+1):=o.aW (aG.refl.set (an _)) U;have none':∀nq,Y<=nq->∃(t':At) (p':bp),AW t' p' (aI h Y (.cells [int z.X,u64 z.bo] 245)) nq/\vq t t'/\eA Y t.own t'.own t.a.sl t'.a.sl p p' h (aI h Y (.cells [int z.X,u64 z.bo] 245))/\Ta Pk t'/\Acc fE (ct t'.a.es) t'.size p' C (d+1):=λnq hq=>⟨t,p,o.aW (aG.refl.set (an _)) hq,.refl t,.same (aG.refl.set (an _)),⟨pa,par,I⟩,hA.up⟩;have amE:=λq=>TO p (aI h Y (.cells [int z.X,u64 z.bo] 245)) (Y+1) same.pk q;have c1:=amE 1;have c2:=amE 2;rw[show((1:Nat):Int)=1 from rfl]at c1;rw[show((2:Nat):Int)=2 from rfl]at c2;obtain⟨e,V,e1,e2,e3,e4,e5,_⟩:=nT o.tk.ok G;have ca:∀q,Y<=q->az prog 275 [.ptr t.tb 0,.agg [int z.X,u64 z.bo]] (aI h Y (.cells [int z.X,u64 z.bo] 245)) q (dG (.ptr e.bT 1) (aI h Y (.cells [int z.X,u64 z.bo] 245)) q):=λq hq=>Fv t _ q (o.aW (aG.refl.set (an _)) hq).tk V e1 e2;have d3:∀q,¬(Y=Y+1+q):=λq=>U;by_cases X9:key=[]
 case' pos=>
  simp+decide-dsimp only[f287,go_sem,o.tk.tr,d1,X9,o.sp.pb,Hd.av,Hd.cells];refine bc c1 ?_;by_cases hr:1<=p.fr.count true
  case' neg=>simp+decide-dsimp only[go_sem,hr];exact⟨⟨_,rfl⟩,none' _ U⟩
  simp+decide-dsimp only[go_sem,hr]
 case' neg=>
  simp+decide-dsimp only[f287,go_sem,o.tk.tr,d1,X9,o.sp.pb,Hd.av,Hd.cells];refine bc c2 ?_;by_cases hr:2<=p.fr.count true
  case' neg=>simp+decide-dsimp only[go_sem,hr];exact⟨⟨_,rfl⟩,none' _ U⟩
  simp+decide-dsimp only[go_sem,hr]
 all_goals
  refine bc (ca _ U) ?_;have yi:c<=n.pre.length:=U;have LG:c+1<=n.pre.length:=U;simp+decide-dsimp only[go_sem,Xq,e4,(U:¬(e.bT=Y)),A,yi,Ax.cells,reduceAdd];generalize tU:Y+1+1+Array.size _=n0;have Xt:Y+1+1+8=n0:=tU;clear tU;generalize hH:aI (aI (aI _ (Y+1) _) (Y+1) _) (Y+1+1+6) _=hi;have Ja:aG Y h hi:=by
   rw[<-hH]
   repeat' first|exact aG.refl|apply aG.fo|(apply aG.set;rotate_left;omega)
  have PS:N hi Y=some (.cells [int z.X,u64 z.bo] 245):=by rw[<-hH,Xg,Xg,Xg,Sr]
  have hH3:N hi (Y+1)=some (.cells [cg n.pre,cg n.val,bW n.has,.ptr n.k.nb 0] 256):=by rw[<-hH];simp[aj]
  have hH4:N hi (Y+1+1+6)=some (.cells [cg [],cg [],bW false,.g (.pointer none)] 256):=by rw[<-hH,Sr]
  refine cm (af5 hi n0) λ_ W cC l1 ⟨k0,e0,k0l,k0ok,Fa,k0own⟩=>?_
  subst e0;have o1:AW t p W cC:=o.aW (Ja.trans (Fa.le (U:Y<=n0)) (an _)) U;have g2:N W Y=some (.cells [int z.X,u64 z.bo] 245):=by rw[Fa _ U];exact PS
  have g3:N W (Y+1)=some (.cells [cg n.pre,cg n.val,bW n.has,.ptr n.k.nb 0] 256):=by rw[Fa _ U];exact hH3
  have g4:N W (Y+1+1+6)=some (.cells [cg [],cg [],bW false,.g (.pointer none)] 256):=by rw[Fa _ U];exact hH4
  have t1:∀q,¬(t.tb=Y+1+q):=λq=>U;have t2:¬(t.tb=Y+1):=U;have t3:∀q,¬(t.tb=Y+1+1+q):=λq=>U;have t4:∀q,¬(t.tb=cC+q):=λq=>U;have b1:∀q,¬(Y+1=cC+q):=λq=>U;have b2:∀q,¬(Y=cC+q):=λq=>U;have b4:¬(Y=Y+1+1+6):=U;have b5:¬(Y=Y+1):=U;have b6:¬(Y+1=Y+1+1+6):=U;have b7:¬(Y+1+1+6=Y+1):=U;refine asC Xq.eq_1 (o1.tk.tr:N W t.tb=_) g3 g4 LG (U:c+1<9223372036854775808) t2 t3 t4 b1 b6 ?_;generalize tU:cC+Array.size _=n2;have ES:cC+12=n2:=tU;generalize hG:aI (aI (aI W _ _) (Y+1) _) (cC+9) _=hs;have hG1:∀b,b≠cC+9->b≠Y+1->b≠Y+1+1+6->N hs b=N W b:=λb q1 q2 q3=>by rw[<-hG,aj,ak q1,aj,ak q2,aj,ak q3]
  have hG2:=U9 hG (WV Tb)
  have hG3:=TZ hG
  have hG4:=U9 hG Tb
  have Ul:aG Y h hs:=λb D=>by rw[hG1 b U U U,Fa b U,Ja b D]
  refine cm ((o.aW Ul U).take U ⟨n.pre.drop (c+1),n.val,n.has,n.k⟩) λ_ h3 nx3 l3 ⟨i,bT,p',f1,f2,q1,q2,q3,q4,q5,q6,S,q7⟩=>?_;subst f2;have a1:=o.pk.tD;have a2:=o.pk.tJ;have a3:=o.pk.tM;have abk:∀b,Y<=b->b<n2->N h3 b=N hs b:=λb D iQ=>S.aW b iQ (λe'=>by have:=o.tk.dL e';omega) U U U;have r1:N h3 (cC+9)=some (.cells [int 0,u64 0] 245):=by rw[abk _ U U];exact hG3
  have r2:N h3 (Y+1+1+6)=some (.cells [cg (n.pre.take c),cg [],bW false,.ptr k0.nb 0] 256):=by rw[abk _ U U];exact hG2
  have r3:N h3 Y=some (.cells [int z.X,u64 z.bo] 245):=by rw[abk _ U U,hG1 _ U U U];exact g2
  have b8:∀q,¬(Y+1+1+6=cC+q):=λq=>U;refine J7 r1 r2 (λq=>U:∀q,¬(Y+1+1+6=cC+q)) ?_;generalize hF:aI h3 (cC+9) _=h2;have hF1:∀b,b≠cC+9->N h2 b=N h3 b:=λb D=>by rw[<-hF,aj,ak D]
  have EG:∀b,k0.own b->n0<=b/\b<cC:=λb D=>⟨k0own b D,k0ok.SI b D⟩
  have cs:=aiB k0 (n.pre.getD c 0) ⟨i,p.gs.getD i 0⟩ h2 nx3 (k0ok.aW (λb D=>by have:=EG b D;rw[hF1 b U,abk b U U,hG1 b U U U]) U);rw[Hd.av,Hd.cells]at cs;refine cm cs λ_ h4 Gc l4 ⟨⟨_,ev⟩,k1,w2,w3,St⟩=>?_;subst ev;have abP:∀b,b<nx3->(n0<=b->cC<=b)->N h4 b=N h2 b:=λb D iQ=>St.aW b D λe'=>by have:=EG b e';omega
  have v1:N h4 (Y+1+1+6)=some (.cells [cg (n.pre.take c),cg [],bW false,.ptr k0.nb 0] 256):=by rw[abP _ U U,hF1 _ U];exact r2
  have v2:N h4 Y=some (.cells [int z.X,u64 z.bo] 245):=by rw[abP _ U U,hF1 _ U];exact r3
  have v3:N h4 t.tb=some (.cells [.ptr t.a.pb 0,.ptr t.a.ab 0,int t.aO.X,u64 t.aO.bo,.g (.int .i64 t.size),bW false] 258):=by rw[abP _ U U,hF1 _ U,q7 _ (.inl rfl) o.tk.d2,Ul _ dc];exact o.tk.tr
  have hfs:∀g∈t.a.es,g.X≠i:=λg hg e'=>by have:=om o.tk.ok.ng hg;rw[e',f1]at this;cases this
  have part:∀(v9:aE) (nz:Nat) (sz:Int) (H:Ax),H.k=k1->Gc<=nz->(∀b,b≠Y+1+1+6->b≠t.tb->N v9 b=N h4 b)->N v9 t.tb=some (.cells [.ptr t.a.pb 0,.ptr t.a.ab 0,int t.aO.X,u64 t.aO.bo,.g (.int .i64 sz),bW false] 258)->
   (∀q,nz<=q->az prog 275 [.ptr t.tb 0,.agg [int z.X,u64 z.bo]] v9 q (dG (.ptr e.bT 1) v9 q))/\N v9 e.bT=some (.cells (u64 z.bo::n.cells) 300)/\∃t5:At,AW t5 p' (aI v9 e.bT (.cells [u64 z.bo,cg H.pre,cg H.val,bW H.has,.ptr k0.nb 0] 300)) nz/\vq t t5/\eA Y t.own t5.own t.a.sl t5.a.sl p p' h (aI v9 e.bT (.cells [u64 z.bo,cg H.pre,cg H.val,bW H.has,.ptr k0.nb 0] 300))/\t5.size=sz/\
    ct t5.a.es=pR (pR (ct t.a.es) i (some (p.gs.getD i 0,⟨n.pre.drop (c+1),n.val,n.has,n.k⟩))) z.X (some (z.bo,H)):=by
   intro v9 nz sz H hik hz hZ oi;rw[show(AO.cells [u64 z.bo,cg H.pre,cg H.val,bW H.has,.ptr k0.nb 0] 300)= .cells (u64 e.bo::H.cells) 300 from by rw[e2];unfold Ax.cells;rw[hik,St.nb]];have zz:∀b,b<nx3->b≠Y+1+1+6->b≠t.tb->(n0<=b->cC<=b)->b≠cC+9->N v9 b=N h3 b:=λb y1 y2 y3 y4 y5=>by rw[hZ b y2 y3,abP b y1 y4,hF1 b y5]
   have zo:∀b,b<Y->b≠t.tb->N v9 b=N h3 b:=λb y1 y2=>zz b U U y2 U U;have ai8:∀b,k1.own b->(n0<=b/\b<cC)\/nx3<=b:=λb D=>by
    obtain y|y:=St.own b D;.exact .inl (EG b y)
    .exact .inr y
   have hpt:p.pb≠t.tb/\p.gb≠t.tb/\p.fb≠t.tb:=by have:=o.sd _ (.inl rfl:t.own t.tb);exact⟨this.1.symm,this.2.1.symm,this.2.2.symm⟩
   have aqO:k1.ok v9 nz:=w3.aW (λb D=>by have:=ai8 b D;exact hZ b U U) hz;have aqX:∀b,k1.own b->Y<=b/\b≠bT:=λb D=>by have:=ai8 b D;exact⟨U,U⟩
   have okZ:Qx.ok {t.a with ck:=t.a.ck+1,es:=t.a.es++[⟨i,bT,t.a.ck,p.gs.getD i 0,⟨n.pre.drop (c+1),n.val,n.has,n.k⟩⟩]} v9 nz:=q2.jw (λb D=>by
    have:b<nx3/\b≠t.tb/\(b<Y\/n2<=b):=by
     have arZ:=q2.dL D;obtain y|y|⟨g,hg,y⟩:=D
     .have:=o.tk.ok.la;have y:b=t.a.ab:=y;exact⟨U,by rw[y];exact o.tk.d1.symm,U⟩
     .have:=o.tk.ok.lm;have y:b=t.a.mb:=y;exact⟨U,by rw[y];exact o.tk.d2.symm,U⟩
     .obtain w|w:=bN.1 hg;.have:=(o.tk.ok.fr g w).2.2;exact⟨U,by rw[<-y];exact o.tk.d3 g w,U⟩
      .simp only[aV]at w;subst w;have y:bT=b:=y;exact⟨U,U,U⟩
    exact zz b this.1 U this.2.1 U U) U
   have:=o.part (p':=p') (h3:=v9) (nx3:=nz) (ck:=t.a.ck+1) (f:=⟨i,bT,t.a.ck,p.gs.getD i 0,⟨n.pre.drop (c+1),n.val,n.has,n.k⟩⟩) (H:=H) (sz:=sz) V (by rw[e3]) hfs (by show Y<=bT;omega)
    (q1.jw (by rw[S.pb];exact zo _ a1 hpt.1) (by rw[S.gb];exact zo _ a2 hpt.2.1) (by rw[S.fb];exact zo _ a3 hpt.2.2) U)
    okZ q3 oi (λb y1 y2 y3=>?_) (by rw[hik];exact aqO) (by rw[hik];exact aqX) U ⟨S.pb,S.gb,S.fb,S.fl,S.fr,λb D=>?_,S.slt,λb y1 y2 y3 y4 y5=>?_⟩
   .obtain⟨o5,S5⟩:=this;refine⟨λq hq=>ad7 t.tb {t.a with ck:=t.a.ck+1,es:=t.a.es++[⟨i,bT,t.a.ck,p.gs.getD i 0,⟨n.pre.drop (c+1),n.val,n.has,n.k⟩⟩]} v9 q oi U (okZ.aW aG.refl hq) (jn _ V) e1 e2,by have:=okZ.cl e (jn _ V);rw[e2,e3]at this;exact this,_,o5,⟨rfl,rfl,rfl,rfl,rfl⟩,S5,rfl,?_⟩;rw[qW q2.ng (jn _ V),CV hfs,e1,e2];rfl
   .have:=o.tk.dL y1;rw[zo b this y2,q7 b y1 y3,Ul b this]
   .obtain y|y:=D;.exact .inl y
    .right;have y:b=bT:=y;omega
   .rw[zo b y1 (λe'=>y2 (.inl e')),S.aW b U y2 y3 y4 y5,Ul b y1]
  have z0:∀q,¬(Y+1+1+6=Gc+q):=λq=>U;have z2:¬(Y=t.tb):=U;have z3:¬(Y+1+1+6=t.tb):=U;have w2':k1.l=[(n.pre.getD c 0,⟨i,p.gs.getD i 0⟩)]:=by rw[w2,k0l];rfl
  have L:ct t.a.es (Hd.mk i (p.gs.getD i 0)).X=none:=f1;have pt:∀(a:u) (m:Ax),eG 1 (a::n.cells) m.cells=some (a::m.cells):=λ_ _=>rfl;have tk4:∀m:Ax,dC 4 m.cells=some m.cells:=λ_=>rfl;have hbe:∀q,¬(Y+1+1+6=e.bT):=λq=>U;have SZ:¬(Y=e.bT):=U;have ar7:Y<=Gc:=U
 case' pos=>
  refine Ik Xq.eq_1 v1 v2 v3 (t3 6:¬(t.tb=Y+1+1+6)) z2 z3 b4 ?_;generalize hZ:aI (aI (aI h4 _ _) _ _) t.tb _=v9;obtain⟨c5,hc5,t5,o5,E5,S5,z5,f5⟩:=part v9 Gc (cO .i64 (t.size+1)) ⟨n.pre.take c,v,true,k1⟩ rfl (an _) (λb y1 y2=>by rw[<-hZ,aj,ak y2,aj,ak y1,aj,ak y1]) (by rw[<-hZ,Sr]);have y1:=U9 hZ Tb z3
  refine bc (c5 _ U) ?_;refine J7 y1 hc5 @Ax.cells.eq_1 ?_;subst X9;rw[cy]at hp;have I5:=I.split G L A (lw:=⟨n.pre.drop (c+1),n.val,n.has,n.k⟩) (H:=⟨n.pre.take c,v,M,k1⟩) Z Z Z Z (λ_=>hp) w2' (ex':=zY) (λ_ h=>h) id (.inl Z);have A5:Acc fE (ct t5.a.es) t5.size p' C (d+1):=by rw[f5,z5];exact hA.parts G f1 (by rfl) Z Z OK q6
  rw[<-f5,<-E5.aO]at I5;exact⟨⟨_,Z⟩,t5,p',o5.aW aG.refl U,E5,S5,⟨_,_,I5⟩,A5⟩
 case' neg=>
  refine L6 Xq.eq_1 v1 v2 X9 ?_;have⟨c5,hc5,t5,o5,E5,S5,z5,f5⟩:=part h4 Gc t.size ⟨n.pre.take c,[],R,k1⟩ Z (an _) (λ_ _ _=>rfl) v3;refine bc (c5 _ U) ?_;refine RC v1 v2 hc5 X9 (U:¬(Y=e.bT)) @Ax.cells.eq_1 ?_;obtain⟨b,r,rfl⟩:∃b r,key=b::r:=by
   cases key with
   |nil=>exact absurd Z X9
   |cons b r=>exact⟨b,r,Z⟩
  have I5:=I.split G L A (lw:=⟨n.pre.drop (c+1),n.val,n.has,n.k⟩) (H:=⟨n.pre.take c,[],R,k1⟩) Z Z Z Z (λe=>by cases e) w2' (ex':=(· =z.X)) (λ_ h=>h.elim) id (.inr Z);have A5:Acc fE (ct t5.a.es) t5.size p' C d:=by rw[f5,z5];exact hA.ahh G f1 (by rfl) Z Z q6
  rw[<-f5,<-E5.aO]at I5;have hs5:ct t5.a.es z.X=J (z.bo,⟨n.pre.take c,[],R,k1⟩):=by rw[f5,eS]
  have kU:z.X≠i:=λe'=>by rw[e',f1]at G;cases G
  generalize hnn:Gc+Array.size _=nn;have c8:=ann t5 p' _ nn (o5.aW aG.refl U) U z _ hs5 b r v (by simp at Bc;omega);rw[E5.tb,Hd.av,Hd.cells]at c8;refine cm c8 λ_ h6 GF l6 ⟨ev,t6,p6,y,k2,k3,u1,u2,u3,o6,E6,S6,u4,u5,u6⟩=>?_
  subst ev;refine QZ ?_;have hpa:(if z.X=i then pa z.X++n.pre.take c++[n.pre.getD c 0]else pa z.X)=pa z.X:=ak kU;have I6:=I5.ay hs5 u1 (b:=b) (r:=r) ?_ (m:=⟨r,v,M,k2⟩) Z u2 ?_ ?_ (n':=⟨n.pre.take c,[],R,k3⟩) Z Z u3 (ex':=zY) (λt h=> .inl h) (FF (by rw[w2'];exact an _)) Z;.refine⟨⟨_,Z⟩,t6,p6,o6,E5.trans E6,S5.trans S6 U,?_,A5.grow hs5 u1 (by rfl) (by rfl) u4 OK u6 u5⟩;show∃pa par,AI Pk (ct t6.a.es) t6.aO pa par zY;rw[E6.aO,u4];exact⟨_,_,I6⟩
  .rw[w2'];have:=cD b r Z;have yf:gC [(n.pre.getD c 0,(⟨i,p.gs.getD i 0⟩:Hd))]:=BP _ _;refine(mU yf).2 λy' hy'=>this ?_;have:=aV.1 hy';exact ff Prod.fst this
  .rw[hpa];exact hp
  .show O ((if z.X=i then _ else _)++n.pre.take c++b::r)<=24;rw[hpa];exact K
def comm:aY->aY->Nat
 |a::x,b::y=>if a=b then comm x y+1 else 0
 |_,_=>0
def yX:∀(a b:aY),comm a b<=O a/\comm a b<=O b
 |[],b=>by simp[comm]
 |a::x,[]=>by simp[comm]
 |a::x,b::y=>by have:=yX x y;unfold comm;split<;>simp<;>omega
def tV:∀(a b:aY),a.take (comm a b)=b.take (comm a b)
 |[],b=>by simp[comm]
 |a::x,[]=>by simp[comm]
 |a::x,b::y=>by
  have:=tV x y;unfold comm;split;.rename_i h;subst h;simp[this]
  .simp
def Ob:∀(a b:aY) (i:Nat),i<comm a b->a.getD i 0=b.getD i 0
 |[],b,i,h=>by simp[comm]at h
 |a::x,[],i,h=>by simp[comm]at h
 |a::x,b::y,i,h=>by
  unfold comm at h;split at h
  .rename_i e;subst e;cases i with
   |zero=>rfl
   |succ i=>simpa[List.getD]using Ob x y i U
  .omega
def CS:∀(a b:aY),comm a b<O a->comm a b<O b->a.getD (comm a b) 0≠b.getD (comm a b) 0
 |[],b,h,_=>by simp at h
 |a::x,[],_,h=>by simp at h
 |a::x,b::y,W,F=>by
  unfold comm at W F⊢;split;.rename_i e;subst e;rw[au Z]at W F;have:=CS x y (Mf W) (Mf F);simpa[List.getD]using this
  .rename_i e;simpa[List.getD]using e
def T75:=RB [(5,[(z6,[],B)])]
def a75(a b:aY)(ha:O a<60000)(D:O b<60000):bz 75 [cg a,cg b] (int (comm a b)):=by
 refine bz.ac 2 T75 func75 λh Y=>?_;refine Xf f75.eq_1 ?_;have hle:=yX a b;have hm:(if O b<O a then(O b:Int)else(O a:Int))=((min (O a) (O b):Nat):Int):=by split<;>omega
 rw[hm];refine cI _ _ (λm s Q E=>∃i,i<=comm a b/\m=min (O a) (O b)-i/\X s 0=cg a/\X s 1=cg b/\X s 5=int (min (O a) (O b):Nat)/\X s 12=int (min (O a) (O b):Nat)/\X s 13=int i/\Q=h/\Y<=E) (n:=min (O a) (O b)) ?_ ?_;.refine QZ ?_;exact⟨0,aQ _,U,Z⟩
 rintro m s Q E ⟨i,H,rfl,s0,s1,s5,Ko,D9,rfl,l1⟩;by_cases dc:i<min (O a) (O b)
 .have W:i<O a:=U;have F:i<O b:=U;by_cases V:a.getD i 0=b.getD i 0
  .refine asC T75.eq_1 s0 s1 s5 Ko D9 dc W F V (U:i+1<9223372036854775808) ?_;refine⟨_,(U:min (O a) (O b)-(i+1)<_),i+1,?_,Z,Z,U⟩;rcases bB i (comm a b)with q|q
   .exact q
   .have:i=comm a b:=U;subst this;exact absurd V (CS a b W F)
  .have tN:¬(((a.getD i 0).toNat:Int)=((b.getD i 0).toNat:Int)):=λe=>V (fH.1 U);refine asA T75.eq_1 s0 s1 Ko D9 dc W F tN ?_;refine .eE .refl .cP ?_;have:i=comm a b:=by
    rcases bB i (comm a b)with q|q;.exact absurd (Ob a b i q) V
    .omega
   rw[this]
 .refine L6 s5 Ko D9 dc ?_;refine .eE .refl .cP ?_;have:comm a b=min (O a) (O b):=U;rw[this]
def R4:=RB [(9,[MO z6 7,MO [] 8,MO [] 9,MO [] 10,RX]),(12,[MO z7 8,MO [] 9,RX]),(17,[([0,1,2,3,4,5,10],[3],J 6),([7,8,9],[10],J 11),MO [] 12,RX]),(23,[MO [0,1,2] 3,MO [] 4,RX])]
def an8(t:At)(p:bp)(h:aE)(Y:Nat)(o:AW t p h Y)(I:AI Pk (ct t.a.es) t.aO pa par zY)(k v:aY)(hp:Pk k)(K:k.length<=24)(hA:Acc fE (ct t.a.es) t.size p C d)(OK:d<50000):
 az prog 271 [.ptr t.tb 0,cg k,cg v] h Y λw Q E=>(∃(old:aY) (nh:Bool) (e:Int),w= .dY [cg old,bW nh,.g (.int .i64 e)])/\∃(t':At) (p':bp),AW t' p' Q E/\vq t t'/\eA Y t.own t'.own t.a.sl t'.a.sl p p' h Q/\Ta Pk t'/\Acc fE (ct t'.a.es) t'.size p' C (d+1):=by
 have dc:=o.tk.lt;have d1:¬(t.tb=Y):=U;refine az.ac 3 R4 func271 ?_;refine Xf f271.eq_1 ?_;refine bc (QV t _ _ o.tk) ?_;refine Xf o.tk.tr ?_;have hrt:=I.rt;refine cI _ _ (λm s Q E=>∃(z:Hd) (n:Ax) (key:aY) (D:Nat),m=key.length/\pa z.X++key=k/\ct t.a.es z.X=some (z.bo,n)/\X s 0= .ptr t.tb 0/\X s 1=cg key/\X s 2=cg v/\X s 9= .ptr D 0/\Y<=D/\D<E/\N Q D=some (.cells [int z.X,u64 z.bo] 245)/\aG Y h Q/\Y<=E) (n:=k.length) ?_ ?_
 .refine QZ ?_;have⟨n0,Xt⟩:=hrt.1;refine⟨t.aO,n0,k,Y,Z,by rw[hrt.2];rfl,Xt,Z,Z,an _,aZ _,by simp[aj],?_⟩
  exact ata
 rintro m s Q E ⟨z,n,key,D,rfl,Sw,G,s0,s1,s2,s9,V7,yL,VP,mA,tn⟩;have o1:AW t p Q E:=o.aW mA tn;have⟨e,V,e1,e2,e3,e4,e5,_⟩:=nT o1.tk.ok G;have cf:O (pa z.X)+O key=O k:=by rw[<-Sw,aq]
 have Ni:O n.pre<=24:=by have:=I.len _ _ _ G;simp only[aq]at this;omega
 have hle:=yX n.pre key;have vz:=tV n.pre key;refine J7 s0 s9 VP ?_;refine bc (Fv t _ _ o1.tk V e1 e2) ?_;refine J7 s1 e4 @Ax.cells.eq_1 ?_;refine ba (a75 n.pre key U U) ?_;by_cases A:comm n.pre key<O n.pre
 .have Lq:comm n.pre key<=O key:=hle.2;have hci:((comm n.pre key:Nat):Int)<(O n.pre:Int):=U;refine asB R4.eq_1 s0 s1 s2 s9 e4 hci Lq VP @Ax.cells.eq_1 ?_;have J6:pa z.X++n.pre.take (comm n.pre key)++key.drop (comm n.pre key)=k:=by rw[vz,aA,bA];exact Sw
  generalize hq:E+Array.size _=nq;have qf:E<=nq:=U;have c:=aqR t p Q nq (o1.aW aG.refl qf) I z n G (comm n.pre key) A (key.drop (comm n.pre key)) v (by rw[J6];exact hp) (by rw[J6];exact K) (λb r e=>by
   have ti:comm n.pre key<key.length:=by have:=ff List.length e;simp at this;omega
   have:=CS n.pre key A ti;have D:key.getD (comm n.pre key) 0=b:=by
    have:(key.drop (comm n.pre key)).getD 0 0=b:=by rw[e];rfl
    rw[ou]at this;simpa using this
   rw[<-D];exact this.symm) hA OK
  rw[Hd.av,Hd.cells]at c;refine cm c λ_ F dR l2 ⟨⟨ev,e0⟩,t2,p2,o2,E2,S2,T2,A2⟩=>?_;subst e0;refine QZ ?_;exact⟨⟨_,_,_,Z⟩,t2,p2,o2,E2,(eA.same mA).trans S2 U,T2,A2⟩
 .have hcm:comm n.pre key=O n.pre:=U;rw[hcm,aH (an _)]at vz;obtain⟨vG,rfl⟩:∃vG,key=n.pre++vG:=⟨key.drop (O n.pre),by rw[<-bA (O n.pre) key,<-vz];simp[jo]⟩;have hci:¬(((comm n.pre (n.pre++vG):Nat):Int)<(O n.pre:Int)):=U;have Lq:O n.pre<=O (n.pre++vG):=bR;have hdr:(n.pre++vG).drop (O n.pre)=vG:=bR;rw[hcm]at hci⊢;have Lx:∀b,t.own b->b≠D:=λb iQ e'=>by have:=o.tk.dL iQ;omega
  have Ly:fW prog 9 (cg (n.pre++vG)) (J (int (O n.pre))) B=J (cg vG):=by rw[te Lq,hdr]
  have NT:∀hc zyQ:AO,aG E (aI Q e.bT zyQ) (aI (aI Q e.bT hc) e.bT zyQ):=λhc zyQ b _=>by rw[aj,aj,aj];split<;>rfl
  cases vG with
  |nil=>
   have hsl':fW prog 9 (cg n.pre) (J (int (O n.pre))) B=J (cg []):=by rw[cy]at Ly;exact Ly
   have Ya:Pk (pa z.X++n.pre):=by rw[cy]at Sw;rw[Sw];exact hp
   have⟨o2,S2⟩:=o1.val V (x:={n with val:=v,has:=M}) (by rw[e3]);have I2:=I.val G v M (λ_=>Ya) (ex':=zY) (λ_ h=> .inr h) (.inl Z);have jS:ct (jC t.a.es e.X {n with val:=v,has:=M})=pR (ct t.a.es) z.X (J (z.bo,{n with val:=v,has:=M})):=by rw[qW o.tk.ok.ng V,e1,e2];rfl
   rw[<-jS]at I2;have dte:¬(t.tb=e.bT):=λe'=>o.tk.d3 e V e'.symm;rw[e2]at o2 S2;cases hh:n.has with
   |true=>refine Ik R4.eq_1 s1 s2 e4 hci hsl' hh @Ax.cells.eq_1 ?_;exact⟨⟨_,_,_,Z⟩,_,p,o2.aW (NT _ _) U,⟨Z,Z,Z,Z,Z⟩,((eA.same mA).trans S2 tn).trans (eA.same (NT _ _)) tn,⟨pa,par,I2⟩,(hA.same G (x':={n with val:=v,has:=M}) (by unfold fE;rw[hh]) jS Z).up⟩
   |false=>have tr1:=o1.tk.tr;refine asC R4.eq_1 s0 s1 s2 e4 hci hsl' hh tr1 dte @Ax.cells.eq_1 ?_;have⟨o3,S3⟩:=(o2.aW (NT (.cells [u64 z.bo,cg n.pre,cg v,bW R,.ptr n.k.nb 0] 300) _) (an _)).tree t.aO (cO .i64 (t.size+1));exact⟨⟨_,_,_,Z⟩,_,p,o3.aW aG.refl U,⟨Z,Z,Z,Z,Z⟩,(((eA.same mA).trans S2 tn).trans (eA.same (NT _ _)) tn).trans S3 U,⟨pa,par,I2⟩,hA.more G (by unfold fE;rw[hh];rfl) (by rfl) jS OK Z⟩
  |cons b r=>
   have ym:n.k.ok Q E:=e3▸(o1.tk.kn e V)
   have gb:∀q,¬(D=E+q):=λq=>U;have gt:∀q,¬(t.tb=E+q):=λq=>U;have er:Ca (km n.k.l b)= .dY [.agg [int ((km n.k.l b).getD default).X,u64 ((km n.k.l b).getD default).bo],bW (km n.k.l b).isSome]:=rfl;have KO:¬(b::r=[]):=bR;have ge:∀q,¬(e.bT=E+q):=λq=>U;refine Ik R4.eq_1 s1 e4 hci Ly ge KO @Ax.cells.eq_1 ?_;generalize hq:E+Array.size _=nq;have qf:E<=nq:=U;refine bc (Ys n.k b _ nq (ym.same ?_ qf)) ?_
   .exact ata
   rw[er];cases hkg:km n.k.l b with
   |none=>
    simp+decide-dsimp only[go_sem,s0,gt,o1.tk.tr,o.sp.pb,oa,reduceAdd];generalize hH:aI (aI Q _ _) _ _=hi;have Ja:aG E Q hi:=by
     rw[<-hH]
     exact ata
    have o2:=o1.aW Ja qf;have c1:=TO p hi nq o2.pk 1;rw[show((1:Nat):Int)=1 from Z]at c1;refine bc c1 ?_;by_cases hr:1<=p.fr.count M
    .have hbH:=(Ja _ yL).trans VP
     refine RC s0 s1 s2 s9 hr hbH ?_;have c:=ann t p hi nq o2 U z n G b r v (by have:=cf;simp only[aq,bD]at this;omega);rw[Hd.av,Hd.cells]at c;refine cm c λ_ h3 nx3 l3 ⟨ev,t3,p3,x,k0,k1,f1,f2,f3,o3,E3,S3,f4,f5,f6⟩=>?_;subst ev;refine QZ ?_;have X5:pa z.X++n.pre++b::r=k:=by rw[aA];exact Sw
     have I3:=I.ay G f1 (b:=b) (r:=r) hkg (m:=⟨r,v,M,k0⟩) Z f2 (X5▸hp) (X5▸K) (n':={n with k:=k1}) Z Z f3 (ex':=zY) (λ_ h=> .inr h) (by
      by_cases w:z.X=t.aO.X;.exact .inl w
      .rcases(I.ne _ _ _ G).2 w with q|q|q;.exact q.elim
       .exact .inr (.inl q)
       .exact FF U) Z
     refine⟨⟨_,_,_,Z⟩,t3,p3,o3,E3,((eA.same mA).trans (eA.same Ja) tn).trans S3 U,?_,hA.grow G f1 (by rfl) (by rfl) f4 OK f6 f5⟩;show∃pa par,AI Pk (ct t3.a.es) t3.aO pa par zY;rw[E3.aO,f4];exact⟨_,_,I3⟩
    .refine Xf hr ?_;exact⟨⟨_,_,_,Z⟩,t,p,o2,.refl t,(eA.same mA).trans (eA.same Ja) tn,⟨pa,par,I⟩,hA.up⟩
   |some y=>
    have jk:=(lV (I.kj _ _ _ G)).1 hkg;have⟨⟨m',i1⟩,i2,i3⟩:=I.kD _ _ _ G _ jk;simp+decide-dsimp only[go_sem,R4,s0,s1,s2,s9,gb,VP,rA,fI,reduceAdd];refine⟨O r,?_,y,m',r,D,Z,?_,i1,Z,Z,V7,U,?_,?_,U⟩;.omega
    .rw[i2,aA,aA];exact Sw
    .rw[au Z]
    .exact atG
def aky:dS prog 404=J [.nilFunc]:=aK
def al4:dS prog 410=J [.nilFunc]:=aK
def Kv:cZ prog 414=J 3:=aK
def ael:lO prog 414=J 24:=aK
def WW:dS prog 414=J [.int .i64 0,.int .u64 0,.int .u8 0]:=aK
def aaR:aR prog 414 0=J 0:=aK
def aa5:aR prog 414 1=J 2:=aK
def alM:fieldsOf prog 414=J [(0,2),(2,1)]:=aK
def VW:prog.underlying 415=J (.slice 414):=aK
def akg:dS prog 420=J [.pointer B,.nilFunc,.bool R]:=aK
def ab6:aR prog 420 0=J 0:=aK
def acn:aR prog 420 1=J 1:=aK
def ah8:cZ prog 449=J 6:=aK
def akr:dS prog 449=J [.int .i64 0,.slice B 0 0,.int .i64 0,.int .u64 0,.int .u64 0,.int .u8 0]:=aK
def Zh:aR prog 449 0=J 0:=aK
def aaO:aR prog 449 1=J 1:=aK
def aaG:aR prog 449 2=J 2:=aK
def aaL:aR prog 449 3=J 4:=aK
def ajI:fieldsOf prog 449=J [(0,1),(1,1),(2,2),(4,2)]:=aK
attribute[go_sem] aky al4 Kv ael WW aaR aa5 alM VW akg ab6 acn ah8 akr Zh aaO aaG aaL ajI
def qH(s q:aY):Bool:=decide (O q<=O s)&&decide (s.take (O q)=q)
def wA(s q:aY):aY:=if qH s q then s.drop (O q) else s
def Dm{s q}:qH s q=M↔∃r,s=q++r:=by
 unfold qH;simp only[aS,fK];constructor;.intro⟨_,h⟩;exact⟨s.drop (O q),by conv=>lhs;rw[<-bA (O q) s,h]⟩
 .rintro⟨r,rfl⟩;simp
def apC(s q:aY)(G:O s<60000)(hq:O q<60000):bz 297 [cg s,cg q] (bW (qH s q)):=by
 refine bz.ac 2 T0 func297 λh Y=>?_;by_cases K:O q<=O s;.have mJ:((O q:Int)<=(O s:Int)):=U;refine J7 f297.eq_1 K mJ ?_;refine .eE .refl .cP ?_;unfold qH;rw[aN K,Ab]
 .refine Y8 f297.eq_1 (U:¬((O q:Int)<=(O s:Int))) ?_;refine .eE .refl .cP ?_;unfold qH;rw[aU K,pS]
def ap4(s q:aY)(G:O s<60000)(hq:O q<60000):bz 293 [cg s,cg q] (.dY [cg (wA s q),bW (qH s q)]):=by
 refine bz.ac 2 T0 func293 λh Y=>?_;refine Xf f293.eq_1 ?_;refine ba (apC s q G hq) ?_;cases hh:qH s q with
 |false=>refine QZ ?_;exact .eE .refl (.mC .cg .cP) (by unfold wA;rw[hh];rfl)
 |true=>
  have K:O q<=O s:=by unfold qH at hh;simp at hh;exact hh.1
  refine Xf K ?_;exact .eE .refl (.mC .cg .cP) (by unfold wA;rw[hh];rfl)
def amV(s q:aY)(G:O s<60000)(hq:O q<60000):bz 281 [cg s,cg q] (.dY [cg (wA s q),bW (qH s q)]):=by refine bz.ac 2 T0 func281 λh Y=>?_;refine Xf f281.eq_1 ?_;refine AJ (ap4 s q G hq) ?_;exact .eE .refl (.mC .cg .cP) Z
def aip:=RB [(3,[MO z4 5,MO [6,7,8] 9,MO [] 10,RX])]
def aoM(a:Ar Ax)(h Y wb)(ok:Qx.ok a h Y){n}(G:ct a.es z.X=J (z.bo,n))(hkb:n.k.nb<Y){ag}(hw:N h wb=J (.cells [.ptr a.ab 0,.g .nilFunc,bW ag] 420))(hwb:wb<Y):
 UP 286 [.ptr wb 0,.agg [int z.X,u64 z.bo]] h Y (dG (.dY [n.av,bW M]) h Y):=by
 have⟨e,V,e1,e2,e3,e4,e5,e6⟩:=nT ok G;refine az.pc 2 aip func286 ?_;refine PV f286.eq_1 aip.eq_1 hw (U:¬(wb=Y)) (U:¬(wb=Y+1)) ?_;generalize hq:Y+1+1+Array.size _=nq;have qf:Y<=nq:=U;refine bc (e6 _ nq ?_ qf) ?_
 .exact ata
 refine L6 e4 (U:¬(e.bT=Y)) (U:¬(e.bT=Y+1)) @Ax.cells.eq_1 ?_;refine .eE ?_ (.mC (.cw ⟨trivial,trivial,trivial,hkb,trivial⟩) .cP) Z
 exact ata
def afl:=RB [(12,[MO [0,1,2,3] 4,MO [] 5,MO [] 6,RX]),(13,[MO [0,1,2,3] 4,MO [5,6,7] 8,MO [] 9,RX])]
def aqs(t:At)(h:aE)(Y:Nat)(ok:t.ok h Y)(I:AI Pk (ct t.a.es) t.aO pa par zY)(k:aY)(K:k.length<=24):
 az prog 268 [.ptr t.tb 0,cg k,.g .nilFunc] h Y λr Q E=>(∃(v:aY) (nh again:Bool),r= .dY [cg v,bW nh,bW again])/\Q=h/\E=Y:=by
 have dc:=ok.lt;refine az.pc 3 afl func268 ?_;refine Xf f268.eq_1 ?_;refine bc (QV t _ _ ok) ?_;have d2:¬(t.tb=Y+1):=U;refine Y8 ok.tr (U:¬(t.tb=Y)) ?_;have hrt:=I.rt;refine cI _ _ (λm s Q E=>∃(z:Hd) (n:Ax) (key:aY) (D:Nat),m=key.length/\pa z.X++key=k/\ct t.a.es z.X=some (z.bo,n)/\X s 0= .ptr t.tb 0/\X s 1=cg key/\X s 9= .ptr Y 0/\X s 10= .ptr D 0/\Y+1<=D/\D<E/\N Q D=some (.cells [int z.X,u64 z.bo] 245)/\
  N Q Y=some (.cells [.ptr t.a.ab 0,.g .nilFunc,bW false] 420)/\aG Y h Q/\Y+1<=E) (n:=k.length) ?_ ?_
 .refine QZ ?_;have⟨n0,Xt⟩:=hrt.1;refine⟨t.aO,n0,k,Y+1,Z,by rw[hrt.2];rfl,Xt,Z,Z,an _,aZ _,by simp[aj],?_⟩
  exact ata
 rintro m s Q E ⟨z,n,key,D,rfl,Sw,G,s0,s1,s9,xN,V7,yL,VP,hw,mA,tn⟩;have o1:t.ok Q E:=ok.aW (λb D=>mA b (ok.dL D)) U;have⟨e,V,e1,e2,e3,e4,e5,_⟩:=nT o1.ok G;have ym:n.k.ok Q E:=e3▸(o1.kn e V)
 have cf:O (pa z.X)+O key=O k:=by rw[<-Sw,aq]
 have Ni:O n.pre<=24:=by have:=I.len _ _ _ G;simp only[aq]at this;omega
 refine J7 s9 xN VP ?_;refine bc (aoM t.a Q E Y o1.ok G ym.lt hw U) ?_;refine J7 s1 @Ax.av.eq_1 @Ax.cells.eq_1 ?_;refine ba (amV key n.pre U U) ?_;cases hh:qH key n.pre with
 |false=>
  refine QZ ?_;refine⟨?_,_,.nD .cg .cP .cP,_,_,_,Z⟩
  exact atG
 |true=>
  obtain⟨vG,rfl⟩:=Dm.1 hh;have P9:wA (n.pre++vG) n.pre=vG:=by unfold wA;rw[hh];simp
  rw[P9];cases vG with
  |nil=>
   refine Xf afl.eq_1 ?_;refine⟨?_,_,.nD .cg .cP .cP,_,_,_,Z⟩
   exact atG
  |cons b r=>
   have KO:¬(b::r=[]):=bR;have gb:¬(D=E):=U;have er:Ca (km n.k.l b)= .dY [.agg [int ((km n.k.l b).getD default).X,u64 ((km n.k.l b).getD default).bo],bW (km n.k.l b).isSome]:=rfl;refine Y8 afl.eq_1 KO ?_;generalize hq:E+1+Array.size _=nq;have qf:E+1<=nq:=U;refine bc (Ys n.k b _ nq (ym.same ?_ U)) ?_
   .exact ata
   rw[er];cases hkg:km n.k.l b with
   |none=>
    simp+decide-dsimp only[go_sem,xN,gb,VP,oa,reduceAdd];refine⟨?_,_,.nD .cg .cP .cP,_,_,_,Z⟩
    exact atG
   |some y=>
    have jk:=(lV (I.kj _ _ _ G)).1 hkg;have⟨⟨m',i1⟩,i2,i3⟩:=I.kD _ _ _ G _ jk;have gw:¬(Y=E):=U;have gw2:¬(Y=D):=U;have gw3:¬(Y=nq):=U;simp+decide-dsimp only[go_sem,s0,s1,s9,xN,gb,VP,rA,fI,reduceAdd];refine⟨O r,?_,y,m',r,nq,Z,?_,i1,Z,Z,U,U,?_,?_,?_⟩;.omega
    .rw[i2,aA,aA];exact Sw
    .simp[aj]
    .simp[gw,gw2,gw3,hw]
    .refine⟨?_,U⟩
     exact atG
variable{x y:Operand}{ys:Array Value}
section
variable{P:Program}
def Hr:bM P (program:Sem Program)=J P:=bQ Z
def Af(d:Nat)(t xs ys)(ht:P.underlying t=J (.struct (P.fieldsOf t)))(hp:P.stoodInHeld t=R):
 bM P (Op.equalIn (d+1) t (.agg xs) (.agg ys))=bM P (Op.eqFields d xs ys (P.fieldsOf t).toList):=by
 simp only[Op.equalIn,cr,iI ht,Hr,hp,du,cU];rw[<-Array.forIn_toList];generalize(P.fieldsOf t).toList=fs;clear ht
 induction fs with
 |nil=>simp[Op.eqFields,cW]
 |cons f fs ih=>
  by_cases hn:f.name= "_";.simp only[List.forIn_cons,Op.eqFields,cr,hn,ne_eq,NY,cU,cW];exact ih
  .simp only[List.forIn_cons,Op.eqFields,cr,hn,ne_eq,On,cA];cases bM P (part f.type xs f.offset)with
   |none=>rfl
   |some a=>
    dsimp only;cases bM P (part f.type ys f.offset)with
    |none=>rfl
    |some b=>
     dsimp only;cases bM P (Op.equalIn d f.type a b)with
     |none=>rfl
     |some r=>
      cases r;.rfl
      .exact ih
def IF(d:Nat)(t)(k k':IntKind)(a b)(h:P.underlying t=J (.int k')):bM P (Op.equalIn (d+1) t (.int k a) (.int k b))=J (a==b):=by simp[Op.equalIn,cr,iI h,cW]
def EqF(P:Program)(d:Nat)(xs ys:Array Value):List (TypeId×Nat×Bool)->Option Bool
 |[]=>J M
 |(t,o,AV)::l=>if AV=M then EqF P d xs ys l else match bM P (part t xs o)with
  |some a=>match bM P (part t ys o)with
   |some b=>match bM P (Op.equalIn d t a b)with
    |some r=>if r=M then EqF P d xs ys l else J R
    |none=>B
   |none=>B
  |none=>B
def uc{d xs ys}:∀(fs:List Field),bM P (Op.eqFields d xs ys fs)=EqF P d xs ys (fs.map λf=>(f.type,f.offset,decide (f.name= "_")))
 |[]=>rfl
 |f::fs=>by
  simp only[Op.eqFields,cB,EqF];by_cases hn:f.name= "_";.simp only[hn,rN,ne_eq,NY,cU,cA];exact uc fs
  .simp only[hn,ne_eq,On,cA,ql,du,cU,cr];cases bM P (part f.type xs f.offset)with
   |none=>rfl
   |some a=>
    dsimp only;cases bM P (part f.type ys f.offset)with
    |none=>rfl
    |some b=>
     dsimp only;cases bM P (Op.equalIn d f.type a b)with
     |none=>rfl
     |some r=>
      cases r;.rfl
      .exact uc fs
def tX{xs t o l a b r}(ha:bM P (part t xs o)=J a)(D:bM P (part t ys o)=J b)(hr:bM P (Op.equalIn d t a b)=J r):EqF P d xs ys ((t,o,R)::l)=if r=M then EqF P d xs ys l else J R:=by simp only[EqF,ha,D,hr,du,cU]
end
def aej(a b c d)(q:Nat):bM prog (Op.equalIn (q+2) 245 (.agg #[.int .i64 a,.int .u64 b]) (.agg #[.int .i64 c,.int .u64 d]))=J (a==c&&b==d):=by
 rw[Af (q+1) 245 _ _ aK aK];rw[uc,show((prog.fieldsOf 245).toList.map λf=>(f.type,f.offset,decide (f.name= "_")))=[(3,0,R),(71,1,R)]from aK,
  tX aK aK (IF q 3 .i64 .i64 a c Fy),tX aK aK (IF q 71 .u64 .u64 b d Nl)]
 cases a==c<;>cases b==d<;>rfl
def yM{P:Program}{al bl AV v r}(ha:u.FH al=J AV)(D:u.FH bl=J v)(hg:P.eqGuardType P.depth t=R)(hr:bM P (Op.equalIn 10000 t (.agg AV.toArray) (.agg v.toArray))=J r):
 dE P h .eql t x y (.agg al) (.agg bl)=J (bW r)/\dE P h .neq t x y (.agg al) (.agg bl)=J (bW !r):=by
 have e1:(u.agg al).pV=J (.agg AV.toArray):=by simp only[u.pV,ha]
 have e2:(u.agg bl).pV=J (.agg v.toArray):=by simp only[u.pV,D]
 have qE:bM P (Op.equal t (.agg AV.toArray) (.agg v.toArray))=J r:=hr;constructor
 .show jm P h .eql t x y (.agg al) (.agg bl)=_;unfold jm;rw[e1,e2];show lH P .eql t x y _ _=_;unfold lH;have:bM P (do eqGuard .eql t x y (.agg AV.toArray) (.agg v.toArray);binOp .eql t (.agg AV.toArray) (.agg v.toArray))=J (.bool r):=by simp only[eqGuard,binOp,cr,qE,cW];simp only[reduceCtorEq,jF,cU,cr];rw[Hr];simp[hg,cW]
  rw[this]
 .show jm P h .neq t x y (.agg al) (.agg bl)=_;unfold jm;rw[e1,e2];show lH P .neq t x y _ _=_;unfold lH;have:bM P (do eqGuard .neq t x y (.agg AV.toArray) (.agg v.toArray);binOp .neq t (.agg AV.toArray) (.agg v.toArray))=J (.bool !r):=by simp only[eqGuard,binOp,cr,qE,cW];simp only[reduceCtorEq,jF,cU,cr];rw[Hr];simp[hg,cW]
  rw[this]
def afL{a b c d:Int}:dE prog h .eql 245 x y (.agg [int a,u64 b]) (.agg [int c,u64 d])=J (bW (a==c&&b==d)):=(yM (AV:=[_,_]) (v:=[_,_]) Z Z aK (aej a b c d 9998)).1
def Tt{a b c d:Int}:dE prog h .neq 245 x y (.agg [int a,u64 b]) (.agg [int c,u64 d])=J (bW !(a==c&&b==d)):=(yM (AV:=[_,_]) (v:=[_,_]) Z Z aK (aej a b c d 9998)).2
attribute[go_sem] afL Tt
variable{o1:Nat->Prop}
def eA.grow{o q l l':Nat->Prop}{p:bp}(a:eA Y o o1 l l' p p' h Q)(hq:∀b,q b->o b):eA Y o (λb=>o1 b\/q b) l l' p p' h Q:=
 ⟨a.pb,a.gb,a.fb,a.fl,a.fr,λb D=>by obtain r|r:=D;exact a.bl b r;exact .inl (hq b r),a.slt,a.aW⟩
def AW.swap{t p}(o:AW t p h Y){e:iB Ax}(V:e∈t.a.es){x:Ax}(hk:x.k.ok h Y)(z:∀b,x.k.own b->b≠t.tb/\¬t.a.own b/\b≠p.pb/\b≠p.gb/\b≠p.fb)(hf:∀f∈t.a.es,f.X≠e.X->∀b,x.k.own b->¬f.x.k.own b):
 AW {t with a:={t.a with es:=jC t.a.es e.X x}} p (aI h e.bT (.cells (u64 e.bo::x.cells) 300)) Y/\
 eA Y (λb=>t.own b\/x.k.own b) ({t with a:={t.a with es:=jC t.a.es e.X x}}:At).own t.a.sl ({t.a with es:=jC t.a.es e.X x}:Ar Ax).sl p p h (aI h e.bT (.cells (u64 e.bo::x.cells) 300)):=by
 have EG:t.a.own e.bT:=Ar.ye V;have L:∀f∈jC t.a.es e.X x,(f.X=e.X/\f.x=x)\/(f.X≠e.X/\∃g∈t.a.es,g.X=f.X/\g.x=f.x):=by
  intro f hf;have⟨g,hg,e1,e2,e3,e4,e5⟩:=fO hf;by_cases hq:g.X=e.X;.exact .inl ⟨e1▸hq,e4 hq⟩
  .exact .inr ⟨e1▸hq,g,hg,e1,(e5 hq).symm⟩
 have cD:∀g∈t.a.es,∀b,g.x.k.own b->b≠e.bT:=λg hg b D e'=>(o.tk.kd g hg b D).2 (e'▸EG);have AY:∀b,({t with a:={t.a with es:=jC t.a.es e.X x}}:At).own b->t.own b\/x.k.own b:=by
  rintro b (e1|e1|⟨f,hf,e1⟩);.exact .inl (.inl e1)
  .exact .inl (.inr (.inl (Ar.qm.1 e1)))
  .obtain⟨_,q⟩|⟨_,g,hg,_,q⟩:=L f hf;.rw[q]at e1;exact .inr e1
   .rw[<-q]at e1;exact .inl (FF ⟨g,hg,e1⟩)
 have Lx:=o.sd e.bT (.inr (.inl EG));refine⟨⟨⟨?_,o.tk.ok.store V x,o.tk.d1,o.tk.d2,λf hf=>?_,o.tk.lt,λf hf=>?_,λf hf b D=>?_,λf nP g hg cD b D iQ=>?_⟩,o.pk.jw ?_ ?_ ?_ (an _),o.sp.upd _ _,λb D=>?_⟩,⟨Z,Z,Z,Z,λ_ h=> .inl h,λb D=> .inl (AY b D),λs h=> .inl (Ar.IN.1 h),λb D oO _ _ _=>?_⟩⟩;.rw[aj,ak (o.tk.d3 e V).symm];exact o.tk.tr
 .exact auV
 .obtain⟨_,q⟩|⟨_,g,hg,_,q⟩:=L f hf;.rw[q];exact hk.aW (λb D=>by rw[aj,ak (λe'=>(z b D).2.1 (by rw[e'];exact EG))]) (an _)
  .rw[<-q];exact(o.tk.kn g hg).aW (λb D=>by rw[Xg (cD g hg b D)]) (an _)
 .obtain⟨_,q⟩|⟨_,g,hg,_,q⟩:=L f hf;.rw[q]at D;exact⟨(z b D).1,λh=>(z b D).2.1 (Ar.qm.1 h)⟩
  .exact aud
 .rcases L f nP with⟨s1,q⟩|⟨s1,f1,Vy,e1,q⟩<;>obtain⟨s2,r⟩|⟨s2,g1,MU,e2,r⟩:=L g hg;.exact cD (s1.trans s2.symm)
  .rw[q]at D;rw[<-r]at iQ;exact hf g1 MU (e2▸s2) b D iQ
  .rw[<-q]at D;rw[r]at iQ;exact hf f1 Vy (e1▸s1) b iQ D
  .exact aue
 .rw[Xg Lx.1.symm]
 .rw[Xg Lx.2.1.symm]
 .rw[Xg Lx.2.2.symm]
 .obtain r|r:=AY b D;.exact o.sd b r
  .exact(z b r).2.2
 .have:b≠e.bT:=λe'=>oO (.inl (.inr (.inl (e'▸EG))));rw[Xg this]
def Sm:=RB [(2,[MO z16 17,([18,19],[],B)]),(5,[(z11,[3],J 12),RX]),(6,[MO z4 5,RX]),(7,[MO [0,1,3] 2,([4],[3],J 5),RX])]
def ahI(t p h Y)(o:AW t p h Y)(z:Hd)(I:AI Pk (ct t.a.es) t.aO pa par (· =z.X))(n)(G:ct t.a.es z.X=J (z.bo,n))(hk:z.X=t.aO.X\/n.has=M\/1<=O n.k.l)(hA:Acc fE (ct t.a.es) t.size p C d):
 UP 285 [.ptr t.tb 0,.agg [int z.X,u64 z.bo]] h Y λw Q E=>w= .dY []/\∃t' p',AW t' p' Q E/\vq t t'/\eA Y t.own t'.own t.a.sl t'.a.sl p p' h Q/\Ta Pk t'/\Acc fE (ct t'.a.es) t'.size p' C d:=by
 have dc:=o.tk.lt;have d1:¬(t.tb=Y):=U;have⟨e,V,e1,e2,e3,e4,e5,_⟩:=nT o.tk.ok G;have d2:¬(e.bT=Y):=U;refine az.ac 2 Sm func285 ?_;have o1:AW t p (aI h Y (.cells [int z.X,u64 z.bo] 245)) (Y+1):=o.aW (aG.refl.set (an _)) U;have ym:n.k.ok (aI h Y (.cells [int z.X,u64 z.bo] 245)) (Y+1):=e3▸(o1.tk.kn e V)
 refine Xf f285.eq_1 ?_;refine bc (Fv t _ _ o1.tk V e1 e2) ?_;have ahU:(z.X=t.aO.X\/n.has=M\/2<=O n.k.l)->∀nq,Y<=nq->∃t' p',AW t' p' (aI h Y (.cells z.cells 245)) nq/\vq t t'/\eA Y t.own t'.own t.a.sl t'.a.sl p p' h (aI h Y (.cells z.cells 245))/\Ta Pk t'/\Acc fE (ct t'.a.es) t'.size p' C d:=λw nq hq=>⟨t,p,o.aW (aG.refl.set (an _)) hq,.refl t,.same (aG.refl.set (an _)),⟨pa,par,I.Mm λs g m h e=>by subst e;obtain⟨rfl,rfl⟩:=some_inj G h;exact w.imp id .inr⟩,hA⟩;cases ON:((z.X:Int)==(t.aO.X:Int)&&(z.bo:Int)==(t.aO.bo:Int))with
 |true=>refine L6 Sm.eq_1 o.tk.tr d1 ON ?_;exact ahU (.inl (by rw[aS,kN]at ON;omega)) _ U
 |false=>
  cases hh:n.has with
  |true=>refine Ik Sm.eq_1 o.tk.tr d1 e4 d2 ON hh @Ax.cells.eq_1 ?_;exact ahU (.inr (.inl hh)) _ U
  |false=>
   refine Ik Sm.eq_1 o.tk.tr d1 e4 d2 ON hh @Ax.cells.eq_1 ?_;generalize hq:Y+1+Array.size _=n1;have KC:Y+1<=n1:=U;refine bc (afy n.k _ n1 (ym.same aG.refl KC)) ?_;by_cases K:O n.k.l=1
   case neg=>refine Xf (U:¬(O n.k.l:Int)=1) ?_;exact ahU (hk.imp id (.imp id λw=>U)) _ U
   have⟨⟨b,y⟩,hbl⟩:=List.length_eq_one_iff.1 K;have jk:(b,y)∈n.k.l:=hbl▸(aV.2 Z)
   have⟨⟨m,i1⟩,i2,i3⟩:=I.kD _ _ _ G _ jk;have⟨f,hf,f1,f2,f3,f4,f5,_⟩:=nT o.tk.ok i1;have cf:=I.len _ _ _ i1;have alW:=I.len _ _ _ G;simp only[aq]at cf alW;have d4:¬(Y=n1):=U;have q0:∀q,¬(n1=n1+1+1+q):=λq=>U;have q1:∀q,¬(Y=n1+1+1+q):=λq=>U;have q2:∀q,¬(n1+1=n1+1+1+q):=λq=>U;have q3:∀q,¬(e.bT=n1+1+1+q):=λq=>U;have q4:∀q,¬(t.tb=n1+1+1+q):=λq=>U;have q6:¬(Y=n1+1):=U;have tl1:O n.pre+1<2^62:=U;have a1:∀h x y,dE prog h .add 9 x y (cg n.pre) (cg [b])=J (cg (n.pre++[b])):=λh x y=>kG tl1;have a2:∀h x y,dE prog h .add 9 x y (cg (n.pre++[b])) (cg m.pre)=J (cg (n.pre++[b]++m.pre)):=λh x y=>kG gr;refine L6 (U:(O n.k.l:Int)=1) e4 d2 @Ax.cells.eq_1 ?_;refine bc (afN n.k 0 U _ n1 (ym.same aG.refl KC)) ?_;rw[Db,hbl,show[(b,y)][0]?=J (b,y)from Z,R0];refine QZ ?_;refine bc (Fv t _ _ (o.aW ?_ ?_).tk hf f1 f2) ?_
   .exact ata
   .omega
   simp+decide-dsimp only[go_sem,Sm,f4,(U:¬(e.bT=n1)),(U:¬(t.tb=n1)),(U:¬(f.bT=Y)),(U:¬(f.bT=n1)),e4,d1,d2,q0,q2,q3,q4,(U:¬(e.bT=n1+1)),(U:¬(t.tb=n1+1)),a1,a2,o.tk.tr,cL,cV,Ax.cells,reduceAdd];generalize tU:n1+1+1+_+Array.size _=n2;have ES:n1+2<=n2:=U;generalize hG:aI (aI (aI _ (n1+1) _) _ _) _ _=hs;have G1:aG Y h hs:=by
    rw[<-hG]
    exact ata
   refine cm (ang t p hs n2 (o.aW G1 U) y m i1) λ_ h3 n3 l3 ⟨ev,t3,p3,o3,E3,z3,S3,st3,c3,m3,k3⟩=>?_
   subst ev;have CR:z.X≠y.X:=(I.EC G jk).symm;have hs3:ct t3.a.es z.X=J (z.bo,n):=by rw[st3,fq CR];exact G
   have a1':=o.pk.tD;have a2':=o.pk.tJ;have a3':=o.pk.tM;have old:∀c,Y<=c->c<n2->N h3 c=N hs c:=λc A yi=>S3.aW c yi (λe'=>by have:=o.tk.dL e';omega) U U U;have k1:=(old _ U U).trans (TZ hG)
   have k2:=(old _ U U).trans (U9 hG (WV (WV (WV (WV (WV Tb))))))
   have⟨e',tN,e1',e2',e3',LB,e5',_⟩:=nT o3.tk.ok hs3;refine J7 Sm.eq_1 k1 k2 ?_;have ca:=λq (hq:n3<=q)=>Fv t3 h3 q (o3.aW aG.refl hq).tk tN e1' e2';rw[E3.tb]at ca;generalize tU:n3+Array.size _=n4;have hn4:n3<=n4:=U;refine bc (ca n4 hn4) ?_;have q9:∀q,¬(n1+1=n3+q):=λq=>U;refine J7 k1 LB @Ax.cells.eq_1 ?_;have hmk:m.k.ok h n2:=by have:=(o.tk.kn f hf).aW (λb _=>rfl) (U:Y<=n2);rw[f3]at this;exact this
   have hfo:∀c,m.k.own c->t.own c:=λc A=> FF ⟨f,hf,by rw[f3];exact A⟩;have NG:∀c,m.k.own c->c≠t.tb/\¬t.a.own c:=λc A=>o.tk.kd f hf c (f3▸A);have N5:∀c,t3.a.own c->t.a.own c:=by
    rintro c (w|w|⟨g,hg,w⟩);.exact .inl (by rw[w,E3.ab])
    .exact .inr (.inl (by rw[w,E3.mb]))
    .exact FF ⟨g,m3 g hg,w⟩
   have aoC:∀c,m.k.own c->c≠t3.tb/\¬t3.a.own c/\c≠p3.pb/\c≠p3.gb/\c≠p3.fb:=λc A=>by have W:=NG c A;have F:=o.sd c (hfo c A);exact⟨by rw[E3.tb];exact W.1,λw=>W.2 (N5 c w),by rw[S3.pb];exact F.1,by rw[S3.gb];exact F.2.1,by rw[S3.fb];exact F.2.2⟩
   have apn:∀g∈t3.a.es,g.X≠e'.X->∀c,m.k.own c->¬g.x.k.own c:=λg hg _ c A yi=>by
    have hgs:g.X≠f.X:=λw=>by have:=om o3.tk.ok.ng hg;rw[st3,w,f1,eS]at this;cases this
    exact o.tk.kk f hf g (m3 g hg) hgs.symm c (f3▸A) yi
   have⟨o5,S5⟩:=o3.swap tN (x:=⟨n.pre++[b]++m.pre,m.val,m.has,m.k⟩) (hmk.aW (λc A=>by rw[k3 c (hfo c A) (λe'=>(NG c A).2 (.inr (.inl e'))),G1 c (o.tk.dL (hfo c A))]) l3) aoC apn;rw[e2']at o5 S5;have sr:z.X≠t.aO.X:=λq=>by have⟨⟨m0,r0⟩,_⟩:=I.rt;rw[<-q,G]at r0;injection r0 with r0;injection r0 with r0 _;rw[q,r0]at ON;simp at ON
   refine⟨_,p3,o5.aW aG.refl hn4,⟨E3.tb,E3.ab,E3.mb,E3.pb,E3.aO⟩,(((eA.same G1).trans S3 U).grow hfo).trans S5 U,?_,?_⟩;.show∃pa par,AI Pk (ct (jC t3.a.es e'.X _)) t3.aO pa par zY;rw[E3.aO,qW o3.tk.ok.ng tN,e1',e2',st3];exact⟨_,_,I.join G hbl i1 (n':=⟨n.pre++[b]++m.pre,m.val,m.has,m.k⟩) Z Z Z sr (ex':=zY) (λ_ h=> .inl h) (λq=>CR q.symm)⟩
   .rw[qW o3.tk.ok.ng tN,e1',e2',st3];exact hA.join G i1 CR.symm (by unfold fE;rw[hh];rfl) (by rfl) Z z3 c3
variable{hc:List u}{a:u}
abbrev ZZ:=Hd×UInt8
def ZZ.cells(x:ZZ):List u:=[int x.1.X,u64 x.1.bo,u8 (x.2.toNat:Nat)]
def IG:∀x:ZZ,O x.cells=3:=λ_=>rfl
section
variable{h:aE}{s x:u}
def aiD:iJ prog h #[415,415] s x=vp h 414 3 (eD h 3 x) s:=w7 VW Kv ael WW bS
def aj7{ev ps}:gI prog ev 415 1 ps=ig 414 1 (gl (λi=>J (i*3,3)) ev ps [int 0,u64 0,u8 0]):=sX VW Kv WW bS Z
end
attribute[go_sem] aiD aj7
def Tw:=RB [(9,[([0,1,2,3,4,5,10],[3],J 6),([7,8,9],[10],J 11),MO [] 12,RX]),(12,[(z5,[1],J 6),MO [] 7,RX]),(23,[MO [0,1,2,7,8] 3,([4,5,6],[8],J 9),RX]),(24,[MO z5 6,RX])]
def ap0{b c}(h:(dV (i*3) hc).bind (dC 3)=J [a,b,c]):(dV (i*3) hc).bind (dC 2)=J [a,b]:=by
 cases z:dV (i*3) hc with
 |none=>rw[z]at h;cases h
 |some zyQ=>rw[z]at h;have h:dC 3 zyQ=J [a,b,c]:=h;show dC 2 zyQ=J [a,b];have⟨W,F⟩:=rW 3 zyQ _ h;rw[bZ _ _ U,show zyQ.take 2=(zyQ.take 3).take 2 by rw[bI];rfl,<-W];rfl
theorem apq(t p h Y)(o:AW t p h Y)(I:AI Pk (ct t.a.es) t.aO pa par zY)(k:aY)(K:O k<=24)(hA:Acc fE (ct t.a.es) t.size p C d)(OK:d<50000):
 UP 266 [.ptr t.tb 0,cg k] h Y λw Q E=>(∃old nh,w= .dY [cg old,bW nh])/\∃t' p',AW t' p' Q E/\vq t t'/\eA Y t.own t'.own t.a.sl t'.a.sl p p' h Q/\Ta Pk t'/\Acc fE (ct t'.a.es) t'.size p' C d:=by
 have dc:=o.tk.lt;refine az.ac 2 Tw func266 ?_;simp+decide-dsimp only[f266,go_sem];refine bc (QV t _ _ o.tk) ?_;simp+decide-dsimp only[go_sem,o.tk.tr,reduceAdd];have hrt:=I.rt;refine cI _ _ (λm s Q E=>∃hx z n key he,m=O key/\O hx+O key<=O k+1/\0<O hx/\(hx.getD (O hx-1) default).1=z/\pa z.X++key=k/\ct t.a.es z.X=J (z.bo,n)/\
  ((O hx=1->z.X=t.aO.X)/\(1<O hx->∃nu,ct t.a.es (hx.getD (O hx-2) default).1.X=J ((hx.getD (O hx-2) default).1.bo,nu)/\((hx.getD (O hx-1) default).2,z)∈nu.k.l))/\
  X s 0= .ptr t.tb 0/\X s 1=cg key/\X s 6=he/\Own ZZ.cells 414 3 Q he hx/\In Y E he/\aG Y h Q/\Y<=E) (n:=O k) ?_ ?_
 .simp+decide-dsimp only[go_sem];have⟨n0,Xt⟩:=hrt.1;refine⟨[(t.aO,0)],t.aO,n0,k,_,Z,gr,bR,Z,by rw[hrt.2];rfl,Xt,⟨λ_=>rfl,λh=>absurd h bR⟩,Z,Z,.inr ⟨Y,1,_,Z,iA,an _,Z,Z⟩,.sl (an _) (aZ _),aG.refl.set (an _)⟩
 rintro m s Q E ⟨hx,z,n,key,he,rfl,hLk,hL0,hLl,Sw,G,Yd,s0,s1,s6,oV,iV,mA,tn⟩;have o1:AW t p Q E:=o.aW mA tn;have⟨e,V,e1,e2,e3,e4,e5,_⟩:=nT o1.tk.ok G;have ym:n.k.ok Q E:=by have:=o1.tk.kn e V;rw[e3]at this;exact this
 have cf:O (pa z.X)+O key=O k:=by rw[<-Sw,aq]
 have Ni:O n.pre<=24:=by have:=I.len _ _ _ G;simp only[aq]at this;omega
 have Lw:cO .i64 ((O hx:Int)-1)=((O hx-1:Nat):Int):=qI;have QD:O hx-1<O hx:=U;have⟨vb,hc,v1,v2,v3,v4⟩:=oV.idx IG Kv QD;rw[ZZ.cells,hLl]at v4;have v5:=ap0 v4;have vl:=iV vb v1;simp+decide-dsimp only[go_sem,s0,s6,oV.len,Lw,v3,v2,v5];refine bc (Fv t _ _ o1.tk V e1 e2) ?_;simp+decide-dsimp only[go_sem,s1,e4,Ax.cells];refine ba (amV key n.pre U U) ?_;have stay:∀hi q,aG E Q hi->E<=q->∃t' p',AW t' p' hi q/\vq t t'/\eA Y t.own t'.own t.a.sl t'.a.sl p p' h hi/\Ta Pk t'/\Acc fE (ct t'.a.es) t'.size p' C d:=λhi q lS hq=>⟨t,p,o1.aW lS hq,.refl t,.same (mA.trans lS tn),⟨pa,par,I⟩,hA⟩;cases hh:qH key n.pre with
 |false=>simp+decide-dsimp only[go_sem];exact⟨⟨_,_,Z⟩,stay _ _ aG.refl U⟩
 |true=>
  obtain⟨vG,rfl⟩:=Dm.1 hh;have P9:wA (n.pre++vG) n.pre=vG:=by unfold wA;rw[hh];simp
  rw[P9];cases vG with
  |cons b r=>
   have KO:¬(b::r=[]):=bR;have er:Ca (km n.k.l b)= .dY [.agg [int ((km n.k.l b).getD default).X,u64 ((km n.k.l b).getD default).bo],bW (km n.k.l b).isSome]:=rfl;have ge:∀q,¬(e.bT=E+q):=λq=>U;simp+decide-dsimp only[go_sem,Tw,e4,ge,KO,Ax.cells,reduceAdd];generalize hq:E+Array.size _=nq;have qf:E+13=nq:=hq;clear hq;refine bc (Ys n.k b _ nq (ym.same ?_ U)) ?_
   .exact ata
   rw[er];cases hkg:km n.k.l b with
   |none=>
    simp+decide-dsimp only[go_sem,oa,reduceAdd];refine⟨⟨_,_,Z⟩,stay _ _ ?_ U⟩
    exact ata
   |some y=>
    have jk:=(lV (I.kj _ _ _ G)).1 hkg;have⟨⟨m',i1⟩,i2,i3⟩:=I.kD _ _ _ G _ jk;have gq:∀q,¬(E+10=nq+q):=λq=>U;simp+decide-dsimp only[go_sem,Tw,s6,gq,rA,fI,cL,cV,reduceAdd];simp only[aq,bD]at hLk cf;refine lN (c:=ZZ.cells) (oV.aW λq e'=>?_) IG (λ_=>rfl) (U:O hx+1<65536) (y,b) ?_;.have:=iV q e';rw[Xg U,Xg U,Xg U]
    intro V' F dR l2 p1 p2 p3;replace l2:nq+8<=dR:=l2;simp+decide-dsimp only[go_sem,s0,s1,s6];have g1:(hx++[(y,b)]).getD (O hx+1-1) default=(y,b):=bR;have g2:(hx++[(y,b)]).getD (O hx+1-2) default=hx.getD (O hx-1) default:=by simp[List.getD,bX QD]
    refine⟨O r,U,hx++[(y,b)],y,m',r,V',Z,?_,?_,?_,?_,i1,?_,Z,Z,p1,λq e'=>?_,?_,U⟩;.simp;omega
    .simp
    .simp
    .rw[i2,aA,aA];exact Sw
    .refine⟨λe=>by rw[aq,dM]at e;omega,λ_=>⟨n,?_,?_⟩⟩;.rw[aq,dM,g2,hLl];exact G
     .rw[aq,dM,g1];exact jk
    .rcases p2 q e' with w|w;.have:=iV q w;omega
     .have:=w.1;refine⟨?_,w.2⟩;replace this:nq+8<=q:=this;omega
    .intro c A;rw[p3 c (by show c<nq+8;omega) (λe'=>by have:=iV c e';omega),Xg U,Xg U,Xg U];exact mA c A
  |nil=>
   have ne:¬(E=e.bT):=U;have ne':¬(e.bT=E):=U;have nt:¬(t.tb=E):=U;have nt':¬(t.tb=e.bT):=λe'=>o.tk.d3 e V e'.symm;have nv:¬(vb=E):=U;have nv2:¬(E=t.tb):=U;have v4':(dV ((O hx-1)*3) hc).bind (dC 3)=J [int z.X,u64 z.bo,u8 ((hx.getD (O hx-1) default).2.toNat:Nat)]:=v4;simp+decide-dsimp only[go_sem,s0,s1,s6,oV.len,Lw,v3,v2,v4',reduceAdd];generalize hH:aI (aI Q E _) E _=hi;have H1:aG E Q hi:=by
    rw[<-hH]
    exact ata
   have H2:N hi E=J (.cells [int z.X,u64 z.bo,u8 ((hx.getD (O hx-1) default).2.toNat:Nat)] 414):=by rw[<-hH,aj,au Z]
   clear hH;have o2:AW t p hi (E+1):=o1.aW H1 (bG _);have LB:=(H1 _ e5).trans e4
   refine bc (Fv t hi (E+1) o2.tk V e1 e2) ?_;cases Ip:n.has with
   |false=>simp+decide-dsimp only[go_sem,LB,Ip,Ax.cells,reduceAdd];exact⟨⟨_,_,Z⟩,stay _ _ H1 U⟩
   |true=>
    have tr1:=o2.tk.tr;have he0:e.bT<Y:=o.tk.dL (.inr (.inl (Ar.ye V)));have⟨o3,S3⟩:=o2.val V (x:={n with val:=[],has:=R}) (by rw[e3]);rw[e2]at o3 S3;have⟨o4,S4⟩:=o3.tree t.aO (cO .i64 (t.size-1));have st4:ct (jC t.a.es e.X {n with val:=[],has:=R})=pR (ct t.a.es) z.X (J (z.bo,{n with val:=[],has:=R})):=by rw[qW o.tk.ok.ng V,e1,e2];rfl
    have I4:=I.val G [] R (λe=>by cases e) (ex':=(· =z.X)) (λ_ h=>h.elim) (.inr Z);rw[<-st4]at I4;have hs4:ct (jC t.a.es e.X {n with val:=[],has:=R}) z.X=J (z.bo,{n with val:=[],has:=R}):=by rw[st4,eS]
    simp+decide-dsimp only[go_sem,s0,s6,LB,nt',tr1,Ip,oV.len,Ax.cells,reduceAdd];generalize hZ:aI (aI (aI hi e.bT _) e.bT _) t.tb _=v9;have Z0:∀c,N v9 c=N (aI (aI hi e.bT (.cells [u64 z.bo,cg n.pre,cg [],bW R,.ptr n.k.nb 0] 300)) t.tb (.cells [.ptr t.a.pb 0,.ptr t.a.ab 0,int t.aO.X,u64 t.aO.bo,.g (.int .i64 (cO .i64 (t.size-1))),bW R] 258)) c:=λc=>by
     rw[<-hZ,aj,aj,aj,aj,aj];split;.rfl
     .split<;>rfl
    clear hZ;have Z1:∀c,c≠e.bT->c≠t.tb->N v9 c=N hi c:=λc W F=>by rw[Z0,Xg F,Xg W]
    have Z2:=(Z1 _ U U).trans H2
    have Z3:N v9 e.bT=J (.cells [u64 z.bo,cg n.pre,cg [],bW R,.ptr n.k.nb 0] 300):=by rw[Z0,Xg (λe'=>nt' e'.symm),aj,au Z]
    have Z4:=(Z1 _ U U).trans ((H1 _ vl.2).trans v2)
    obtain⟨t4,ht4⟩:∃t4:At,t4={t with aO:=t.aO,size:=cO .i64 (t.size-1),a:={t.a with es:=jC t.a.es e.X {n with val:=[],has:=R}}}:=⟨_,Z⟩;have o5:AW t4 p v9 (E+1):=by rw[ht4];exact o4.aW (λc _=>Z0 c) (an _)
    have S5:eA Y t.own t4.own t.a.sl t4.a.sl p p h v9:=by rw[ht4];exact((((eA.same mA).trans (eA.same H1) tn).trans S3 U).trans S4 U).trans (eA.same λc _=>Z0 c) (Nat.le_succ_of_le tn)
    have E4:vq t t4:=by rw[ht4];exact⟨Z,Z,Z,Z,Z⟩
    have st5:ct t4.a.es=pR (ct t.a.es) z.X (J (z.bo,{n with val:=[],has:=R})):=by rw[ht4];exact st4
    have I5:AI Pk (ct t4.a.es) t4.aO pa par (· =z.X):=by rw[ht4];exact I4
    have A5:Acc fE (ct t4.a.es) t4.size p C d:=by rw[ht4];exact hA.less G (by unfold fE;rw[Ip];rfl) (by rfl) st4 OK Z
    have hs5:ct t4.a.es z.X=J (z.bo,{n with val:=[],has:=R}):=by rw[ht4];exact hs4
    have Wq:∀c,t4.own c->t.own c:=λc A=>by
     have W:=o5.tk.dL A;rw[ht4]at A;rcases S4.bl c A with w|w
     .rcases S3.bl c w with w|w;.exact w
      .omega
     .omega
    clear ht4 I4 hs4 st4 S3 S4 o3 o4;by_cases RU:1<O hx
    case neg=>have Tx:¬(1<(O hx:Int)):=U;simp+decide-dsimp only[go_sem,s0,Tx,Z2];have c:=ahI t4 p v9 (E+1) o5 z I5 _ hs5 (.inl (E4.aO▸(Yd.1 U))) A5;rw[E4.tb]at c;refine cm c λ_ h6 GF l6 ⟨ev,t6,p6,o6,E6,S6,T6,A6⟩=>?_;subst ev;simp+decide-dsimp only[go_sem];exact⟨⟨_,_,Z⟩,t6,p6,o6,E4.trans E6,S5.trans S6 U,T6,A6⟩
    have Tx:(1<(O hx:Int)):=U;have apc:n.k.ok v9 (E+1):=by have⟨f,hf,f1,f2,f3⟩:=kz hs5;have:=o5.tk.kn f hf;rw[f3]at this;exact this
    simp+decide-dsimp only[go_sem,Tx,Z3,reduceAdd];refine bc (afy n.k v9 (E+1) apc) ?_;by_cases Aa:O n.k.l=0
    case neg=>have afz:¬((O n.k.l:Int)=0):=U;simp+decide-dsimp only[go_sem,s0,Tx,afz,Z2];have c:=ahI t4 p v9 (E+1) o5 z I5 _ hs5 (FF (by show 1<=O n.k.l;omega)) A5;rw[E4.tb]at c;refine cm c λ_ h6 GF l6 ⟨ev,t6,p6,o6,E6,S6,T6,A6⟩=>?_;subst ev;simp+decide-dsimp only[go_sem];exact⟨⟨_,_,Z⟩,t6,p6,o6,E4.trans E6,S5.trans S6 U,T6,A6⟩
    have afz:((O n.k.l:Int)=0):=U;have⟨nu,u1,u2⟩:=Yd.2 RU;obtain⟨up,hupe⟩:∃up:ZZ,up=hx.getD (O hx-2) default:=⟨_,Z⟩;obtain⟨bb,ON⟩:∃bb:UInt8,bb=(hx.getD (O hx-1) default).2:=⟨_,Z⟩;rw[<-hupe]at u1;rw[<-ON]at u2 Z2;have⟨vb',A',x1,x2,x3,x4⟩:=oV.idx IG Kv (i:=O hx-2) U;rw[v1]at x1;cases x1;rw[v2]at x2;injection x2 with x2;cases x2
    rw[<-hupe,ZZ.cells]at x4;have hw3:cO .i64 ((O hx:Int)-2)=((O hx-2:Nat):Int):=qI;have cD:=I.EC u1 u2;have cD:z.X≠up.1.X:=cD;have u5:ct t4.a.es up.1.X=J (up.1.bo,nu):=by rw[st5,fq cD.symm];exact u1
    have nv3:¬(vb=E+1):=U;have aoq:¬(E=E+1):=U;simp+decide-dsimp only[go_sem,Tw,s0,s6,Tx,afz,hw3,x3,Z4,x4,oV.len,Z2,aoq,reduceAdd];generalize hq:E+1+1+Array.size _=nq;have qf:E+2<=nq:=U;clear hq;generalize hY:aI (aI v9 (E+1) _) (E+1) _=nx;have Y1:aG (E+1) v9 nx:=by
     rw[<-hY]
     exact ata
    have Y2:N nx (E+1)=J (.cells [int up.1.X,u64 up.1.bo,u8 (up.2.toNat:Nat)] 414):=by rw[<-hY,aj,au Z]
    have Y3:=(Y1 _ (aZ _)).trans Z2
    clear hY;have oY:AW t4 p nx nq:=o5.aW Y1 U;have⟨fu,hfu,fu1,fu2,fu3,fu4,fu5,_⟩:=nT oY.tk.ok u5;have cY:=Fv t4 nx nq oY.tk hfu fu1 fu2;rw[E4.tb]at cY;refine bc cY ?_;simp+decide-dsimp only[go_sem,fu4,Y3,Ax.cells,reduceAdd];have hku:nu.k.ok nx nq:=by have:=oY.tk.kn fu hfu;rw[fu3]at this;exact this
    have aqB:∀c,nu.k.own c->c<Y:=λc A=>o.tk.dL (Wq c (FF ⟨fu,hfu,by rw[fu3];exact A⟩));refine cm (aqD nu.k bb nx nq hku) λ_ h5 UM l5 ⟨⟨_,ev⟩,k',r1,r2,St⟩=>?_;subst ev;have⟨o6,S6⟩:=oY.bu hfu r2 (fu3▸St) (an _) l5;rw[fu3]at o6 S6;have h5o:∀c,Y<=c->c<nq->N h5 c=N nx c:=λc A yi=>St.aW c yi (λe'=>by have:=aqB c e';omega);have W2:=(h5o _ U U).trans Y2
    have W3:=(h5o _ U U).trans Y3
    have tr6:=o6.tk.tr;simp only[E4.tb,E4.ab]at tr6;have st6:ct (jC t4.a.es fu.X {nu with k:=k'})=pR (ct t4.a.es) up.1.X (J (up.1.bo,{nu with k:=k'})):=by rw[qW oY.tk.ok.ng hfu,fu1,fu2];rfl
    have hs6:ct (jC t4.a.es fu.X {nu with k:=k'}) z.X=J (z.bo,{n with val:=[],has:=R}):=by rw[st6,fq cD];exact hs5
    simp+decide-dsimp only[go_sem,Tw,s0,W3,tr6];generalize hq:UM+Array.size _=n6;have ZW:UM<=n6:=U;clear hq;have o7:=o6.aW aG.refl ZW;have c7:=ang _ p h5 n6 o7 z _ hs6;rw[<-E4.ab];refine cm c7 λ_ h8 n8 l8 ⟨ev,t7,p7,o8,E7,z7,S7,st7,c7,m7,k7⟩=>?_;subst ev;have b1:=o.pk.tD;have b2:=o.pk.tJ;have b3:=o.pk.tM;have ai0:∀c,Y<=c->c<nq->N h8 c=N h5 c:=λc A yi=>S7.aW c U (λe'=>by
     rcases S6.bl c e' with w|w;.have:=o.tk.dL (Wq c w);omega
     .omega) U U U
    have V2:=(ai0 _ U U).trans W2
    have V3:=(ai0 _ U U).trans W3
    simp+decide-dsimp only[go_sem,s0,V2,V3,reduceAdd];generalize hX:aI h8 E _=ao;have X1:∀c,c≠E->N ao c=N h8 c:=λc A=>by rw[<-hX,Xg A]
    clear hX;have an0:∀c,t7.own c->c≠E:=λc A e'=>by
     rcases S7.bl c A with w|w
     .rcases S6.bl c w with w|w;.have:=o.tk.dL (Wq c w);omega
      .omega
     .omega
    have oX:AW t7 p7 ao n8:=⟨o8.tk.aW (λc A=>X1 c (an0 c A)) (an _),o8.pk.jw (X1 _ (Es S7.pb)) (X1 _ (Es S7.gb)) (X1 _ (Es S7.fb)) (an _),o8.sp,o8.sd⟩;have I7:=I5.drop u5 u2 (n':={nu with k:=k'}) Z Z r1 (ex':=(· =up.1.X)) (λ_ h=> .inl h) Z (λg m hm=>by obtain⟨-,rfl⟩:=some_inj hs5 hm;exact uV Aa);have A7:Acc fE (ct t7.a.es) t7.size p7 C d:=(A5.same u5 (x':={nu with k:=k'}) Z st6 Z).rel hs6 (by rfl) st7 z7 c7;have hk7:up.1.X=t7.aO.X\/nu.has=M\/1<=O k'.l:=by
     rw[E7.aO];show up.1.X=t4.aO.X\/_;rw[E4.aO];by_cases w:up.1.X=t.aO.X;.exact .inl w
     .rcases(I.ne _ _ _ u1).2 w with q|q|q;.exact q.elim
      .exact .inr (.inl q)
      .refine .inr (.inr ?_);rw[r1,DI];split<;>omega
    have anW:ct t7.a.es up.1.X=J (up.1.bo,{nu with k:=k'}):=by rw[st7,fq cD.symm];show ct (jC _ _ _) _=_;rw[st6,eS]
    have I7':AI Pk (ct t7.a.es) t7.aO pa par (· =up.1.X):=by rw[st7,E7.aO];show AI Pk (pR (ct (jC t4.a.es fu.X {nu with k:=k'})) z.X B) t4.aO pa par _;rw[st6];exact I7
    have c:=ahI t7 p7 ao n8 oX up.1 I7' _ anW hk7 A7;rw[E7.tb,E4.tb]at c;refine cm c λ_ h9 nx9 l9 ⟨ev,t9,p9,o9,E9,S9,T9,A9⟩=>?_;subst ev;simp+decide-dsimp only[go_sem];have SX:eA Y t7.own t7.own t7.a.sl t7.a.sl p7 p7 h8 ao:=eA.same λc A=>X1 c U;exact⟨⟨_,_,Z⟩,t9,p9,o9,⟨E9.tb.trans (E7.tb.trans E4.tb),E9.ab.trans (E7.ab.trans E4.ab),E9.mb.trans (E7.mb.trans E4.mb),E9.pb.trans (E7.pb.trans E4.pb),E9.aO.trans (E7.aO.trans E4.aO)⟩,(((((S5.trans (eA.same Y1) U).trans S6 U).trans S7 U).trans SX (an _)).trans S9 U),T9,A9⟩
variable{hx:List Pr}{aw E s:Nat}{he:u}
def sF(σ:DM):Nat->Nat->aY->List Pr
 |0,_,_=>[]
 |d+1,s,path=>match σ s with
  |none=>[]
  |some x=>(if x.2.has then[(path++x.2.pre,x.2.val)]else[])++x.2.k.l.flatMap λe=>sF σ d e.2.X (path++x.2.pre++[e.1])
def Gx{σ g n}{path:aY}(h:σ s=J (g,n)):sF σ (d+1) s path=(if n.has then[(path++n.pre,n.val)]else[])++n.k.l.flatMap λe=>sF σ d e.2.X (path++n.pre++[e.1]):=by simp only[sF,h]
structure r9(t:At)(aw:Nat)(h:aE)(Y:Nat)(he:u)(hx:List Pr):Prop where
 ok:t.ok h Y
 lt:∀b,t.own b->b<aw
 b1:N h aw=J (.cells [.ptr t.tb 0] 215)
 b4:N h (aw+2)=J (.cells [.fn 274 [.ptr aw 0,.ptr (aw+1) 0,.ptr (aw+2) 0]] 404)
 b3:N h (aw+1)=J (.cells [he] 68)
 v:Own Pr.cells 88 2 h he hx
 iv:In (aw+3) Y he
 Y:aw+3<=Y
def GZ(aw Y:Nat)(he V':u)(h Q:aE):Prop:=(∀b,b<Y->b≠aw+1->cu he≠J b->N Q b=N h b)/\∀b,cu V'=J b->cu he=J b\/Y<=b
def r9.jw{t}(o:r9 t aw h Y he hx)(s:∀b,b<aw+3->N Q b=N h b)(s':∀b,cu he=J b->N Q b=N h b)(hn:Y<=E):r9 t aw Q E he hx:=
 ⟨o.ok.aW (λb D=>s b (EB (o.lt b D))) hn,o.lt,by rw[s _ U];exact o.b1,by rw[s _ U];exact o.b4,by rw[s _ U];exact o.b3,o.v.aW s',o.iv.le (an _) hn,by have:=o.Y;omega⟩
def r9.same{t}(o:r9 t aw h Y he hx)(s:aG Y h Q)(hn:Y<=E):r9 t aw Q E he hx:=
 ⟨o.ok.aW (λb D=>s b (o.ok.dL D)) hn,o.lt,by rw[s _ (EB o.Y)];exact o.b1,by rw[s _ (EB o.Y)];exact o.b4,by rw[s _ (EB o.Y)];exact o.b3,o.v.aW λb D=>s b (o.iv b D).2,o.iv.le (an _) hn,by have:=o.Y;omega⟩
def agZ:=RB [(2,[MO z5 6,RX]),(4,[(z7,[0,1,5],J 8),MO [] 9,RX])]
def apF(t:At)(I:AI Pk (ct t.a.es) t.aO pa par zY)(aw:Nat):∀(d:Nat) (z:Hd) (n:Ax),ct t.a.es z.X=J (z.bo,n)->25<=d+O (pa z.X)->∀(hx:List Pr) (he:u) (h:aE) (Y:Nat),r9 t aw h Y he hx->O hx+O (sF (ct t.a.es) d z.X (pa z.X))<=60000->
 UP 274 [.agg [int z.X,u64 z.bo],cg (pa z.X),.ptr aw 0,.ptr (aw+1) 0,.ptr (aw+2) 0] h Y λw Q E=>w= .dY []/\Y<=E/\∃V',r9 t aw Q E V' (hx++sF (ct t.a.es) d z.X (pa z.X))/\GZ aw Y he V' h Q:=by
 intro d
 induction d with
 |zero=>intro z n G hd0;have:=I.len _ _ _ G;simp only[aq]at this;omega
 |succ d ih=>
  intro z n G hd0 hx he h Y o cf;rw[Gx G]at cf⊢;have hN:=o.Y;have⟨e,V,e1,e2,e3,e4,e5,_⟩:=nT o.ok.ok G;have uH:=I.len _ _ _ G;simp only[aq]at uH;have heb:e.bT<aw:=o.lt _ (.inr (.inl (Ar.ye V)));have c3:¬(aw+1=Y):=U;have c4:¬(aw+1=Y+1):=U;have c5:¬(aw+2=Y):=U;have c6:¬(aw+2=Y+1):=U;have c7:¬(e.bT=Y):=U;refine az.Jm prog xt pk agZ (λ_=>[]) func274 (c:=f274.body.getD .skip) Z Z aK aK (by show 5<=_;decide) (L6 f274.eq_1 o.b1 (U:¬(aw=Y)) (U:¬(aw=Y+1)) ?_);generalize hH:aI (aI h Y _) (Y+1) _=hi;have H1:aG Y h hi:=by
   rw[<-hH]
   exact ata
  refine bc (Fv t hi (Y+2) (o.same H1 (U:Y<=Y+2)).ok V e1 e2) ?_
  refine RC agZ.eq_1 ((H1 _ e5).trans e4) (TZ hH) (U:¬(e.bT=Y+1)) (λh x y=>kG U:∀h x y,dE prog h .add 9 x y (cg (pa z.X)) (cg n.pre)=J (cg (pa z.X++n.pre))) @Ax.cells.eq_1 ?_;generalize tU:Y+2+Array.size _=n2;have ES:Y+2<=n2:=U;generalize hG:aI hi (Y+1) _=hs;have G1:aG (Y+1) hi hs:=hG▸(aG.refl.set (an _))
  have G2:=TZ hG
  have Ul:aG Y h hs:=λb D=>by rw[G1 b U,H1 b D]
  have o2:r9 t aw hs n2 he hx:=o.same Ul U;have XX:=(Ul _ e5).trans e4
  cases hh:n.has
  case' false=>
   rw[hh]at cf;refine J7 XX hh @Ax.cells.eq_1 ?_;obtain⟨L1,RU⟩:∃L1,L1=hx++(if R=M then[(pa z.X++n.pre,n.val)]else[]):=⟨_,Z⟩;have oo:r9 t aw hs n2 he L1:=by rw[RU];simpa using o2
   have⟨V1,oV1,KV1,ajM⟩:∃V1,r9 t aw hs n2 V1 L1/\GZ aw Y he V1 h hs/\cu V1≠J (Y+1):=⟨he,oo,⟨λb D _ _=>Ul b D,λb D=> .inl D⟩,λe'=>by have:=(o.iv _ e').2;omega⟩;obtain⟨v9,rfl⟩:∃v9,v9=hs:=⟨_,Z⟩;obtain⟨nz,rfl⟩:∃nz,nz=n2:=⟨_,Z⟩;have pZ:=G2;have eZ:=XX;have hnz:=ES;clear G2 XX ES
  case' true=>
   rw[hh]at cf;refine asC agZ.eq_1 XX G2 o2.b3 (λq=>U:∀q,¬(aw+1=n2+q)) (λq=>U:∀q,¬(Y+1=n2+q)) (λq=>U:∀q,¬(e.bT=n2+q)) hh @cL @cV @Ax.cells.eq_1 ?_;refine lN (c:=Pr.cells) (o2.v.aW λq e'=>?_) vK (λ_=>rfl) (by simp at cf;omega:O hx+1<65536) (pa z.X++n.pre,n.val) ?_;.have:=o2.iv q e';rw[Xg]
   intro V1 F nz l2 p1 p2 p3;replace l2:n2+10<=nz:=l2;replace p2:∀b,cu V1=J b->cu he=J b\/(n2+10<=b/\b<nz):=p2;have p4:∀b,b<n2->cu he≠J b->N F b=N hs b:=λb D hv=>by rw[p3 b (by omega) hv,Xg]
   have k1:N F (aw+1)=J (.cells [he] 68):=by rw[p4 _ U (λe'=>by have:=o2.iv _ e';omega)];exact o2.b3
   have hVb:∀b,cu he=J b->aw+3<=b/\b<Y:=λb D=>o.iv b D;have hnv:∀b,b<aw+3->cu he≠J b:=λb D e'=>by have:=hVb b e';omega
   have hee:=(p4 _ U (hnv _ U)).trans XX
   refine RC k1 p1.cells.1 p1.cells.2 hee (U:¬(e.bT=aw+1)) @Ax.cells.eq_1 ?_;generalize hZ:aI F (aw+1) _=v9;have Z1:∀b,b≠aw+1->N v9 b=N F b:=λb D=>by rw[<-hZ,Xg D]
   have Z2:=TZ hZ
   have Z3:∀b,b<n2->b≠aw+1->cu he≠J b->N v9 b=N hs b:=λb W F h3=>by rw[Z1 b F,p4 b W h3]
   have eZ:=(Z3 _ U U (hnv _ U)).trans XX
   have pZ:N v9 (Y+1)=J (.cells [cg (pa z.X++n.pre)] 9):=by rw[Z3 _ U U (λe'=>by have:=hVb _ e';omega)];exact G2
   obtain⟨L1,RU⟩:∃L1,L1=hx++(if M=M then[(pa z.X++n.pre,n.val)]else[]):=⟨_,Z⟩;have oV1:r9 t aw v9 nz V1 L1:=by
    refine⟨o2.ok.aW (λb D=>?_) U,o.lt,?_,?_,Z2,?_,λb D=>?_,U⟩;.have:=o.lt b D;rw[Z3 b U U (hnv _ U)]
    .rw[Z3 _ U U (hnv _ U)];exact o2.b1
    .rw[Z3 _ U U (hnv _ U)];exact o2.b4
    .rw[RU,au Z];refine p1.aW λb D=>Z1 b ?_;obtain w|w:=p2 b D
     .have:=hVb b w;omega
     .omega
    .obtain w|w:=p2 b D;.have:=hVb b w;omega
     .omega
   have KV1:GZ aw Y he V1 h v9:=⟨λb D W F=>by rw[Z3 b U W F];exact Ul b D,λb D=>(p2 b D).imp id (λw=>U)⟩;have hnz:Y+2<=nz:=U;have ajM:cu V1≠J (Y+1):=λe'=>by
    obtain w|w:=p2 _ e';.have:=hVb _ w;omega
    .omega
   clear hee hVb Z1 Z2 Z3 hnv p1 p2 p3 p4 k1 o2 Ul G1
  all_goals
   have ym:n.k.ok v9 nz:=e3▸(oV1.ok.kn e V)
   have Tv:∀b,n.k.own b->b<aw:=λb D=>o.lt b (FF ⟨e,V,by rw[e3];exact D⟩);refine cm (afE n.k v9 nz ym) λ_ h3 n3 l3 ⟨a,b,hl,H',ev,C,sm3⟩=>?_;subst ev;refine QZ ?_;have o3:=oV1.same sm3 l3;have xL:O L1+O (n.k.l.flatMap λe=>sF (ct t.a.es) d e.2.X (pa z.X++n.pre++[e.1]))<=60000:=by rw[RU,aq];rw[aq]at cf;omega
   refine Nw (EB ym.sh.Rd.len) C (an _) Z λr0 xH=>⟨λi Q E=>∃Vi,r9 t aw Q E Vi (L1++(n.k.l.take i).flatMap λe=>sF (ct t.a.es) d e.2.X (pa z.X++n.pre++[e.1]))/\
    (∀b,b<n3+2->b≠aw+1->cu V1≠J b->N Q b=N (aI (aI h3 n3 (.defs (J []))) (n3+1) (.loop r0)) b)/\(∀b,cu Vi=J b->cu V1=J b\/n3+2<=b)/\n3+2<=E,?_,?_,?_,?_⟩
   .refine⟨V1,?_,λ_ _ _ _=>rfl,λb D=> .inl D,an _⟩;have:=o3.same (Q:=aI (aI h3 n3 (.defs (J []))) (n3+1) (.loop r0)) ((aG.refl.set (an _)).set U) (U:n3<=n3+2);simpa using this
   .rintro i Q E ⟨Vi,q1,q2,q3,q4⟩;have M8:∀b,cu V1=J b->b<nz:=λb D=>(oV1.iv b D).2
    refine⟨?_,λc A=>?_⟩;.rw[q2 _ U U (λe'=>by have:=M8 _ e';omega),Sr]
    .have NS:nz<=c/\c<n3:=by
      obtain rfl|rfl|w|w:=A;.exact C.ia
      .exact C.ib
      .exact C.ik c w
      .exact C.ih c w
     rw[q2 c U U (λe'=>by have:=M8 _ e';omega),Xg,Xg]
   .rintro i Q E H ⟨Vi,q1,q2,q3,q4⟩;have M8:∀b,cu V1=J b->b<nz:=λb D=>(oV1.iv b D).2
    have m1:N Q (Y+1)=J (.cells [cg (pa z.X++n.pre)] 9):=by rw[q2 _ U U ajM,Xg,Xg,sm3 _ U];exact pZ
    have m2:N Q (n3+1)=J (.loop r0):=by rw[q2 _ U U (λe'=>by have:=M8 _ e';omega),Sr]
    have hkf:(kf n.k.l).getD i 0=n.k.l[i].1:=by simp[List.getD,H]
    have hkh:(kh n.k.l).getD i default=n.k.l[i].2:=by simp[List.getD,H]
    have⟨⟨m',i1⟩,i2,i3⟩:=I.kD _ _ _ G _ (bO H);rw[hkf,hkh];have tb:∀h x y,dE prog h .add 9 x y (cg (pa z.X++n.pre)) (cg [n.k.l[i].1])=J (cg (pa z.X++n.pre++[n.k.l[i].1])):=λh x y=>kG gr;refine ko.mk2 pk (λ_=>[]) xH m2 aK λrb=>?_;simp+decide-dsimp only[go_sem,q1.b4,m1,m2,(U:¬(aw+2=E)),(U:¬(aw+2=n3+1)),(U:¬(n3+1=E)),(U:¬(E=n3+1)),(U:¬(Y+1=E)),(U:¬(Y+1=n3+1)),tb,cL,cV,Hd.cells,reduceAdd];rw[<-i2];have hvi:∀b,cu Vi=J b->(b<nz\/n3+2<=b)/\b<E:=λb D=>⟨(q3 b D).imp (λw=>M8 b w) id,(q1.iv b D).2⟩;generalize hX:aI (aI (aI (aI Q E _) E _) (n3+1) _) (E+1) _=ao;have X1:∀c,c≠E->c≠n3+1->c≠E+1->N ao c=N Q c:=λc y1 y2 y3=>by rw[<-hX,Xg y3,Xg y2,Xg y1,Xg y1]
    have vz:(n.k.l.take (i+1)).flatMap (λe=>sF (ct t.a.es) d e.2.X (pa z.X++n.pre++[e.1]))=(n.k.l.take i).flatMap (λe=>sF (ct t.a.es) d e.2.X (pa z.X++n.pre++[e.1]))++sF (ct t.a.es) d n.k.l[i].2.X (pa n.k.l[i].2.X):=by rw[bj H,bL,i2];simp
    have dc:O (L1++(n.k.l.take i).flatMap λe=>sF (ct t.a.es) d e.2.X (pa z.X++n.pre++[e.1]))+O (sF (ct t.a.es) d n.k.l[i].2.X (pa n.k.l[i].2.X))<=60000:=by
     have uQ:(n.k.l.take (i+1)).flatMap (λe=>sF (ct t.a.es) d e.2.X (pa z.X++n.pre++[e.1]))++(n.k.l.drop (i+1)).flatMap (λe=>sF (ct t.a.es) d e.2.X (pa z.X++n.pre++[e.1]))=n.k.l.flatMap (λe=>sF (ct t.a.es) d e.2.X (pa z.X++n.pre++[e.1])):=by rw[<-bL,bA]
     have:=ff List.length uQ;rw[vz]at this;simp only[aq]at this xL⊢;omega
    have NG:25<=d+O (pa n.k.l[i].2.X):=by rw[i2];simp only[aq,dM];omega
    refine cm (ih n.k.l[i].2 m' i1 NG _ Vi ao (E+2) (q1.jw (λb D=>X1 b U U U) (λb D=>by have:=hvi b D;exact X1 b U U U) U) dc) λ_ h5 n5 l5 ⟨ev,l5',V5,q5,K5⟩=>?_;subst ev;have z1:N h5 (n3+1)=J (.loop rb):=by rw[K5.1 _ U U (λe'=>by have:=hvi _ e';omega)];exact U9 hX Tb
    have hv5:∀b,cu V5=J b->cu V1=J b\/n3+2<=b:=λb D=>by
     obtain w|w:=K5.2 b D;.exact q3 b w
     .right;omega
    refine Xf z1 ?_;rw[vz,<-aA];refine⟨V5,q5.jw (λb D=>Ce) (λb D=>by
     have W:b≠n3+1:=by
      obtain w|w:=hv5 b D;.have:=M8 b w;omega
      .omega
     rw[Xg W]) (an _),λb W F h3=>?_,hv5,U⟩
    by_cases D:b=n3+1;.subst D;simp
    .have anJ:cu Vi≠J b:=λe'=>by
      obtain w|w:=q3 b e';.exact h3 w
      .omega
     rw[ak D,ak D,K5.1 b U F anJ,X1 b U D U,q2 b W F h3,Xg D,aj]
   .rintro Q E ⟨Vi,q1,q2,q3,q4⟩;have M8:∀b,cu V1=J b->b<nz:=λb D=>(oV1.iv b D).2
    rw[fF]at q1;dsimp only[jT.bT];have hvi:∀b,cu Vi=J b->b<nz\/n3+2<=b:=λb D=>(q3 b D).imp (λw=>M8 b w) id;refine⟨?_,[],Z,Z,U,Vi,?_,λb D W F=>?_,λb D=>?_⟩;.rw[Xg,q2 _ U U (λe'=>by have:=M8 _ e';omega),Xg,Sr]
    .rw[RU,aA]at q1;exact q1.jw (λb D=>by rw[Xg,Xg]) (λb D=>by have:=hvi b D;rw[Xg,Xg]) (an _)
    .have an4:cu V1≠J b:=λe'=>by
      obtain w|w:=KV1.2 b e';.exact F w
      .omega
     rw[Xg,Xg,q2 b U W an4,Xg,Xg,sm3 b U];exact KV1.1 b D W F
    .obtain w|w:=q3 b D;.exact KV1.2 b w
     .right;omega
section
variable{Pk:aY->Prop}{σ:DM}{aO:Hd}{pa:Nat->aY}{par:Nat->Nat}
def ahm{a b:UInt8}(h:a<b)(P r r':aY):P++a::r<P++b::r':=by
 induction P with
 |nil=>exact ef.2 (.inl h)
 |cons x P ih=>exact ef.2 (.inr ⟨Z,ih⟩)
def ahe{P:aY}{b:UInt8}{r:aY}:P<P++b::r:=by
 induction P with
 |nil=>simp
 |cons x P ih=>exact ef.2 (.inr ⟨Z,ih⟩)
def AI.all(I:AI Pk σ aO pa par zY):∀(d s g:Nat) (n:Ax),σ s=J (g,n)->
 (∀e∈sF σ d s (pa s),(∃r,e.1=pa s++r)/\∃s' g' n',σ s'=J (g',n')/\n'.has=M/\e.1=pa s'++n'.pre)/\((sF σ d s (pa s)).map Prod.fst).Pairwise (· < ·):=by
 intro d
 induction d with
 |zero=>intro s g n h;exact⟨λe V=>(by cases V),List.Pairwise.nil⟩
 |succ d ih=>
  intro s g n h;rw[Gx h];have hk:∀e∈n.k.l,(∀q∈sF σ d e.2.X (pa s++n.pre++[e.1]),(∃r,q.1=pa s++n.pre++e.1::r)/\∃s' g' n',σ s'=J (g',n')/\n'.has=M/\q.1=pa s'++n'.pre)/\((sF σ d e.2.X (pa s++n.pre++[e.1])).map Prod.fst).Pairwise (· < ·):=by intro e V;have⟨⟨m,i1⟩,i2,_⟩:=I.kD _ _ _ h e V;rw[<-i2];have⟨W,F⟩:=ih _ _ _ i1;refine⟨λq hq=>?_,F⟩;have⟨⟨r,hr⟩,h3⟩:=W q hq;exact⟨⟨r,by rw[hr,i2];simp⟩,h3⟩
  refine⟨λe V=>?_,?_⟩
  .obtain V|V:=bN.1 V
   .cases hh:n.has with
    |false=>rw[hh]at V;cases V
    |true=>
     rw[hh]at V;have V:e=(pa s++n.pre,n.val):=Mf V
     subst V;exact⟨⟨n.pre,Z⟩,s,g,n,h,hh,Z⟩
   .have⟨q,hq,hq'⟩:=cS.1 V;have⟨⟨r,hr⟩,h3⟩:=(hk q hq).1 e hq';exact⟨⟨n.pre++q.1::r,by rw[hr];simp⟩,h3⟩
  .rw[dm,jr];refine⟨by cases n.has<;>simp,?_,λa ha b D=>?_⟩;.rw[List.map_flatMap,tP];refine⟨λe V=>(hk e V).2,?_⟩;refine(sI.1 (I.kj _ _ _ h)).imp_of_mem λ{e e'} V tN dc x L y hy=>?_;obtain⟨q,hq,rfl⟩:=bg.1 L;obtain⟨q',hq',rfl⟩:=bg.1 hy;have⟨⟨r,hr⟩,_⟩:=(hk e V).1 q hq;have⟨⟨r',qE⟩,_⟩:=(hk e' tN).1 q' hq';rw[hr,qE];exact ahm dc _ _ _
   .obtain⟨q,hq,rfl⟩:=bg.1 D;have⟨e,V,hq⟩:=cS.1 hq;have⟨⟨r,hr⟩,_⟩:=(hk e V).1 q hq;have ha:a=pa s++n.pre:=by
     cases hh:n.has with
     |false=>rw[hh]at ha;cases ha
     |true=>rw[hh]at ha;simpa using ha
    rw[ha,hr];exact ahe
def AX{α:Type}[DecidableEq α]:∀(l m:List α),l.Nodup->(∀x∈l,x∈m)->O l<=O m
 |[],_,_,_=>aQ _
 |x::l,m,hn,G=>by have L:=G x bR;have:=AX l (m.erase x) (iG.1 hn).2 λy hy=>(F5 (λe=>(iG.1 hn).1 (by rw[<-e];exact hy))).2 (G y (by simp[hy]));rw[zW L]at this;have:=nX L;simp only[bD];omega
end
def At.all(t:At):List Pr:=sF (ct t.a.es) 25 t.aO.X []
def AI.Bg{Pk:aY->Prop}{t:At}{pa par}(I:AI Pk (ct t.a.es) t.aO pa par zY):MT Pk [] t.all/\O t.all<=O t.a.es:=by
 have⟨n,hn⟩:=I.rt.1;have⟨W,F⟩:=I.all 25 _ _ _ hn;rw[I.rt.2]at W F;refine⟨⟨F,λk _=>kF,λk hk=>?_⟩,?_⟩;.obtain⟨e,V,rfl⟩:=bg.1 hk;have⟨_,s',g',n',a1,a2,a3⟩:=W e V;rw[a3];exact I.aJ _ _ _ a1 a2
 .have:=AX (t.all.map Prod.fst) (t.a.es.map λe=>pa e.X++e.x.pre) (List.Pairwise.imp (S:=λa b=>a≠b) (λ{a b} yl e=>bU (by rw[e]at yl;exact yl)) (show(t.all.map Prod.fst).Pairwise (· < ·)from F)) λx L=>by obtain⟨e,V,rfl⟩:=bg.1 L;have⟨_,s',g',n',a1,a2,a3⟩:=W e V;have⟨f,hf,f1,f2,f3⟩:=kz a1;exact bg.2 ⟨f,hf,by rw[f1,f3,a3]⟩
  simpa using this
def AW.yG{t p}(o:AW t p h Y):O t.a.es<=4096:=by
 exact atA
def akm:=RB [(6,[MO z4 5,RX])]
def aon(t p h Y)(o:AW t p h Y){Pk:aY->Prop}{pa par}(I:AI Pk (ct t.a.es) t.aO pa par zY):
 UP 264 [.ptr t.tb 0] h Y (dG (yP t.all) h Y):=by
 have dc:=o.tk.lt;have⟨n,hn⟩:=I.rt.1;have lX:=I.Bg.2;have aoJ:=o.yG;refine az.pc 1 akm func264 (Xf f264.eq_1 ?_);refine bc (QV t _ _ (o.tk.aW (λb D=>?_) ?_)) ?_;.have:=o.tk.dL D;rw[Xg,Xg]
 .omega
 have b1:¬(Y=Y+1+1):=U;have b2:¬(Y=Y+1):=U;refine YM akm.eq_1 o.tk.tr (U:¬(t.tb=Y)) (U:¬(t.tb=Y+1)) (U:¬(t.tb=Y+1+1)) b1 b2 ?_;generalize hq:Y+1+1+1+Array.size _=nq;generalize hH:aI (aI (aI (aI h Y _) (Y+1) _) (Y+1+1) _) (Y+1+1) _=hi;have H0:aG Y h hi:=by
  rw[<-hH]
  exact ata
 have env:r9 t Y hi nq (FB) []:=by
  refine⟨o.tk.aW (λb D=>H0 b (o.tk.dL D)) U,λb D=>o.tk.dL D,?_,?_,?_,.inl ⟨Z,Z⟩,.nil,U⟩;.rw[<-hH,Xg b1,Xg b1,Xg b2,Sr]
  .rw[<-hH,Sr]
  .rw[<-hH,Xg,Xg,Sr]
 have c:=apF t I Y 25 t.aO n hn U [] _ hi nq env (by rw[I.rt.2];show 0+O t.all<=_;omega);rw[I.rt.2]at c;refine cm c λ_ F n2 l2 ⟨ev,l2',he,o2,K2⟩=>?_
 subst ev;refine Xf o2.b3 ?_;refine .of (λb D=>?_) (o2.v.fz (Y:=Y) (H:=n2) (o2.iv.le U (an _)) H7);rw[K2.1 b U U (λe=>by cases e)];exact H0 b D
end
end br
end Go.Proofs.YtonnifoeokagjaaGreat
