/- The theorem plans_holds of OrdersPlans: part 11 of its proof; no conditions. -/
import Derived.Test.YtonnifoeokagjaaGreatF10
namespace Go.Proofs.YtonnifoeokagjaaGreat
set_option linter.all false
set_option maxRecDepth 8000
open Go Go.RowKit
open Tryz
open Nat(reduceAdd reduceMul)
namespace bC
noncomputable section
variable{Pk:ba->Prop}{h h':aG}{nx:Nat}{o1:Nat->Prop}{p':bj}{pa:Nat->ba}{par:Nat->Nat}
theorem dA.grow{o q l l':Nat->Prop}{p:bj}(a:dA nx o o1 l l' p p' h h')(hq:∀b,q b->o b):dA nx o (λb=>o1 b\/q b) l l' p p' h h':=
 ⟨a.pb,a.gb,a.fb,a.fl,a.fr,λb hb=>by rcases hb with r|r;exact a.bl b r;exact .inl (hq b r),a.slt,a.aX⟩
theorem AW.swap{t:At}{p:bj}(o:AW t p h nx){e:jE Ax}(he:e∈t.a.es){x:Ax}(hk:x.k.ok h nx)(hd:∀b,x.k.own b->b≠t.tb/\¬t.a.own b/\b≠p.pb/\b≠p.gb/\b≠p.fb)(hf:∀f∈t.a.es,f.ao≠e.ao->∀b,x.k.own b->¬f.x.k.own b):
 AW {t with a:={t.a with es:=iL t.a.es e.ao x}} p (aK h e.bJ (.cells (u64 e.bk::x.cells) 300)) nx/\
 dA nx (λb=>t.own b\/x.k.own b) ({t with a:={t.a with es:=iL t.a.es e.ao x}}:At).own t.a.sl ({t.a with es:=iL t.a.es e.ao x}:Ar Ax).sl p p h (aK h e.bJ (.cells (u64 e.bk::x.cells) 300)):=by
 have xX:t.a.own e.bJ:=Ar.wT he;have hx:∀f∈iL t.a.es e.ao x,(f.ao=e.ao/\f.x=x)\/(f.ao≠e.ao/\∃g∈t.a.es,g.ao=f.ao/\g.x=f.x):=by
  intro f hf;obtain⟨g,hg,e1,e2,e3,e4,e5⟩:=eT hf;by_cases hq:g.ao=e.ao;.exact .inl ⟨e1▸hq,e4 hq⟩
  .exact .inr ⟨e1▸hq,g,hg,e1,(e5 hq).symm⟩
 have cx:∀g∈t.a.es,∀b,g.x.k.own b->b≠e.bJ:=λg hg b hb e'=>(o.tk.kd g hg b hb).2 (e'▸xX);have yV:∀b,({t with a:={t.a with es:=iL t.a.es e.ao x}}:At).own b->t.own b\/x.k.own b:=by
  rintro b (e1|e1|⟨f,hf,e1⟩);.exact .inl (.inl e1)
  .exact .inl (.inr (.inl (Ar.oL.1 e1)))
  .rcases hx f hf with⟨_,q⟩|⟨_,g,hg,_,q⟩;.rw[q]at e1;exact .inr e1
   .rw[<-q]at e1;exact .inl (.inr (.inr ⟨g,hg,e1⟩))
 have IG:=o.sd e.bJ (.inr (.inl xX));refine⟨⟨⟨?_,o.tk.ok.store he x,o.tk.d1,o.tk.d2,λf hf=>?_,o.tk.lt,λf hf=>?_,λf hf b hb=>?_,λf mj g hg cx b hb gC=>?_⟩,o.pk.iy ?_ ?_ ?_ (an _),o.sp.upd _ _,λb hb=>?_⟩,⟨rfl,rfl,rfl,rfl,λ_ h=> .inl h,λb hb=> .inl (yV b hb),λs h=> .inl (Ar.EZ.1 h),λb hb mS _ _ _=>?_⟩⟩;.show au _ t.tb=_;rw[aj,ak (o.tk.d3 e he).symm];exact o.tk.tr
 .obtain⟨g,hg,_,e2,_⟩:=eT hf;rw[<-e2];exact o.tk.d3 g hg
 .rcases hx f hf with⟨_,q⟩|⟨_,g,hg,_,q⟩;.rw[q];exact hk.aX (λb hb=>by rw[aj,ak (λe'=>(hd b hb).2.1 (by rw[e'];exact xX))]) (an _)
  .rw[<-q];exact(o.tk.kn g hg).aX (λb hb=>by rw[aj,ak (cx g hg b hb)]) (an _)
 .rcases hx f hf with⟨_,q⟩|⟨_,g,hg,_,q⟩;.rw[q]at hb;exact⟨(hd b hb).1,λh=>(hd b hb).2.1 (Ar.oL.1 h)⟩
  .rw[<-q]at hb;exact⟨(o.tk.kd g hg b hb).1,λh=>(o.tk.kd g hg b hb).2 (Ar.oL.1 h)⟩
 .rcases hx f mj with⟨s1,q⟩|⟨s1,f1,hf1,e1,q⟩<;>rcases hx g hg with⟨s2,r⟩|⟨s2,g1,Ji,e2,r⟩;.exact cx (s1.trans s2.symm)
  .rw[q]at hb;rw[<-r]at gC;exact hf g1 Ji (by rw[e2];exact s2) b hb gC
  .rw[<-q]at hb;rw[r]at gC;exact hf f1 hf1 (by rw[e1];exact s1) b gC hb
  .rw[<-q]at hb;rw[<-r]at gC;exact o.tk.kk f1 hf1 g1 Ji (by rw[e1,e2];exact cx) b hb gC
 .rw[aj,ak IG.1.symm]
 .rw[aj,ak IG.2.1.symm]
 .rw[aj,ak IG.2.2.symm]
 .rcases yV b hb with r|r;.exact o.sd b r
  .exact(hd b r).2.2
 .have:b≠e.bJ:=λe'=>mS (.inl (.inr (.inl (by rw[e'];exact xX))));rw[aj,ak this]
def O':Nat->cU:=λid=>if id=2 then[(z16,[],some 17),([18,19],[],none)]else if id=5 then[(z11,[3],some 12),([],[],none)]else if id=6 then[(z4,[],some 5),([],[],none)]else if id=7 then[([0,1,3],[],some 2),([4],[3],some 5),([],[],none)]else[]
theorem ab5(t:At)(p:bj)(h:aG)(nx:Nat)(o:AW t p h nx)(I:AI Pk (cV t.a.es) t.aO pa par)(hd:Hd)(n:Ax)(hs:cV t.a.es hd.ao=some (hd.bk,n)):
 aA prog 285 [.ptr t.tb 0,.agg [int hd.ao,u64 hd.bk]] h nx λw h' nx'=>w= .dN []/\∃(t':At) (p':bj),AW t' p' h' nx'/\tv t t'/\dA nx t.own t'.own t.a.sl t'.a.sl p p' h h'/\LQ Pk t':=by
 have db:=o.tk.lt;have d1:¬(t.tb=nx):=ah;obtain⟨e,he,e1,e2,e3,e4,e5,_⟩:=ng o.tk.ok hs;have d2:¬(e.bJ=nx):=ah;refine aA.ac 2 O' func285 ?_;have o1:AW t p (aK h nx (.cells [int hd.ao,u64 hd.bk] 245)) (nx+1):=o.aX (aH.refl.set (an _)) ah;have Cs:n.k.ok (aK h nx (.cells [int hd.ao,u64 hd.bk] 245)) (nx+1):=by have:=o1.tk.kn e he;rw[e3]at this;exact this
 simp+decide-dsimp only[f285,go_sem];refine bm (Dd t _ _ o1.tk he e1 e2) ?_;have ac2:∀nq,nx<=nq->∃(t':At) (p':bj),AW t' p' (aK h nx (.cells [int hd.ao,u64 hd.bk] 245)) nq/\tv t t'/\dA nx t.own t'.own t.a.sl t'.a.sl p p' h (aK h nx (.cells [int hd.ao,u64 hd.bk] 245))/\LQ Pk t':=λnq hq=>⟨t,p,o.aX (aH.refl.set (an _)) hq,.refl t,.same (aH.refl.set (an _)),pa,par,I⟩;cases Q7:((hd.ao:Int)==(t.aO.ao:Int)&&(hd.bk:Int)==(t.aO.bk:Int))with
 |true=>simp+decide-dsimp only[go_sem,O',o.tk.tr,d1,Q7];exact ac2 _ ah
 |false=>
  cases hh:n.has with
  |true=>simp+decide-dsimp only[go_sem,O',o.tk.tr,d1,e4,d2,Q7,hh,Ax.cells,reduceAdd];exact ac2 _ ah
  |false=>
   simp+decide-dsimp only[go_sem,O',o.tk.tr,d1,e4,d2,Q7,hh,Ax.cells,reduceAdd];generalize hq:nx+1+Array.size _=n1;have TY:nx+1<=n1:=ah;clear hq;refine bm (ajx n.k _ n1 (Cs.same aH.refl TY)) ?_;by_cases hl:n.k.l.length=1
   case neg=>have oh:¬(n.k.l.length:Int)=1:=ah;simp+decide-dsimp only[go_sem,oh];exact ac2 _ ah
   have oh:(n.k.l.length:Int)=1:=ah;obtain⟨⟨b,y⟩,hbl⟩:=List.length_eq_one_iff.1 hl;have iI:(b,y)∈n.k.l:=by rw[hbl];exact aR.2 rfl
   obtain⟨⟨m,i1⟩,i2,i3⟩:=I.lQ _ _ _ hs _ iI;obtain⟨f,hf,f1,f2,f3,f4,f5,_⟩:=ng o.tk.ok i1;have bP:=I.len _ _ _ i1;have aih:=I.len _ _ _ hs;simp only[aq]at bP aih;have d3:¬(e.bJ=n1):=ah;have d4:¬(nx=n1):=ah;have d5:¬(t.tb=n1):=ah;have d6:¬(f.bJ=nx):=ah;have d7:¬(f.bJ=n1):=ah;have q0:∀q,¬(n1=n1+1+1+q):=λq=>ah;have q1:∀q,¬(nx=n1+1+1+q):=λq=>ah;have q2:∀q,¬(n1+1=n1+1+1+q):=λq=>ah;have q3:∀q,¬(e.bJ=n1+1+1+q):=λq=>ah;have q4:∀q,¬(t.tb=n1+1+1+q):=λq=>ah;have q5:¬(e.bJ=n1+1):=ah;have q6:¬(nx=n1+1):=ah;have q7:¬(t.tb=n1+1):=ah;have tl1:n.pre.length+1<2^62:=ah;have tl2:(n.pre++[b]).length+m.pre.length<2^62:=fE;have a1:∀h x y,cZ prog h .add 9 x y (bR n.pre) (bR [b])=some (bR (n.pre++[b])):=λh x y=>jv tl1;have a2:∀h x y,cZ prog h .add 9 x y (bR (n.pre++[b])) (bR m.pre)=some (bR (n.pre++[b]++m.pre)):=λh x y=>jv tl2;simp+decide-dsimp only[go_sem,oh,e4,d2,Ax.cells,reduceAdd];refine bm (aeD n.k 0 ah _ n1 (Cs.same aH.refl TY)) ?_;rw[Ci,hbl,show[(b,y)][0]?=some (b,y)from rfl,NF];simp+decide-dsimp only[go_sem,reduceAdd];refine bm (Dd t _ _ (o.aX ?_ ?_).tk hf f1 f2) ?_
   .repeat' first|exact aH.refl|apply aH.fJ|(apply aH.set;rotate_left;omega)
   .omega
   simp+decide-dsimp only[go_sem,O',f4,d3,d5,d6,d7,e4,d1,d2,q0,q2,q3,q4,q5,q7,a1,a2,o.tk.tr,cr,cB,Ax.cells,reduceAdd];generalize tz:n1+1+1+_+Array.size _=n2;have Gq:n1+2<=n2:=ah;clear tz;generalize hG:aK (aK (aK _ (n1+1) _) _ _) _ _=G;have G1:aH nx h G:=by
    rw[<-hG]
    repeat' first|exact aH.refl|apply aH.fJ|(apply aH.set;rotate_left;omega)
   have G2:au G (n1+1)=some (.cells [bR (n.pre++[b]++m.pre),bR m.val,bQ m.has,.ptr m.k.nb 0] 256):=by rw[<-hG,aj,aw rfl]
   have G3:au G nx=some (.cells [int hd.ao,u64 hd.bk] 245):=by rw[<-hG,aj,ak ah,aj,ak ah,aj,ak ah,aj,ak ah,aj,ak ah,aj,ak ah,aj,aw rfl]
   clear hG;have o2:AW t p G n2:=o.aX G1 ah;refine cf (aj4 t p G n2 o2 y m i1) λ_ h3 n3 l3 ⟨ev,t3,p3,o3,E3,z3,S3,st3,c3,m3,k3⟩=>?_
   subst ev;have CE:hd.ao≠y.ao:=(I.Ba hs iI).symm;have hs3:cV t3.a.es hd.ao=some (hd.bk,n):=by rw[st3,iS CE];exact hs
   have a1':=o.pk.rY;have a2':=o.pk.ss;have a3':=o.pk.sr;have old:∀c,nx<=c->c<n2->au h3 c=au G c:=λc hc wA=>S3.aX c wA (λe'=>by have:=o.tk.dm e';omega) ah ah ah;have k1:au h3 (n1+1)=some (.cells [bR (n.pre++[b]++m.pre),bR m.val,bQ m.has,.ptr m.k.nb 0] 256):=by rw[old _ ah ah];exact G2
   have k2:au h3 nx=some (.cells [int hd.ao,u64 hd.bk] 245):=by rw[old _ ah ah];exact G3
   obtain⟨e',tM,e1',e2',e3',IS,e5',_⟩:=ng o3.tk.ok hs3;simp+decide-dsimp only[go_sem,O',k1,k2];have ca:=λq (hq:n3<=q)=>Dd t3 h3 q (o3.aX aH.refl hq).tk tM e1' e2';rw[E3.tb]at ca;generalize tz:n3+Array.size _=n4;have hn4:n3<=n4:=ah;clear tz;refine bm (ca n4 hn4) ?_;have q9:∀q,¬(n1+1=n3+q):=λq=>ah;simp+decide-dsimp only[go_sem,k1,IS,Ax.cells,reduceAdd];have hmk:m.k.ok h n2:=by have:=(o.tk.kn f hf).aX (λb _=>rfl) (ah:nx<=n2);rw[f3]at this;exact this
   have hfo:∀c,m.k.own c->t.own c:=λc hc=> .inr (.inr ⟨f,hf,by rw[f3];exact hc⟩);have O6:∀c,m.k.own c->c≠t.tb/\¬t.a.own c:=λc hc=>o.tk.kd f hf c (by rw[f3];exact hc);have ang:m.k.ok h3 n3:=hmk.aX (λc hc=>by rw[k3 c (hfo c hc) (λe'=>(O6 c hc).2 (.inr (.inl e'))),G1 c (o.tk.dm (hfo c hc))]) l3;have LN:∀c,t3.a.own c->t.a.own c:=by
    rintro c (w|w|⟨g,hg,w⟩);.exact .inl (by rw[w,E3.ab])
    .exact .inr (.inl (by rw[w,E3.mb]))
    .exact .inr (.inr ⟨g,m3 g hg,w⟩)
   have aj7:∀c,m.k.own c->c≠t3.tb/\¬t3.a.own c/\c≠p3.pb/\c≠p3.gb/\c≠p3.fb:=λc hc=>by have h1:=O6 c hc;have h2:=o.sd c (hfo c hc);exact⟨by rw[E3.tb];exact h1.1,λw=>h1.2 (LN c w),by rw[S3.pb];exact h2.1,by rw[S3.gb];exact h2.2.1,by rw[S3.fb];exact h2.2.2⟩
   have am3:∀g∈t3.a.es,g.ao≠e'.ao->∀c,m.k.own c->¬g.x.k.own c:=λg hg _ c hc wA=>by
    have hgs:g.ao≠f.ao:=λw=>by have:=qI o3.tk.ok.rK hg;rw[st3,w,f1,gg]at this;cases this
    exact o.tk.kk f hf g (m3 g hg) hgs.symm c (by rw[f3];exact hc) wA
   obtain⟨o5,S5⟩:=o3.swap tM (x:=⟨n.pre++[b]++m.pre,m.val,m.has,m.k⟩) ang aj7 am3;have S3':dA nx t.own (λc=>t3.own c\/m.k.own c) t.a.sl t3.a.sl p p3 h h3:=((dA.same G1).trans S3 ah).grow hfo;rw[e2']at o5 S5;have I5:=I.join hs hbl i1 (n':=⟨n.pre++[b]++m.pre,m.val,m.has,m.k⟩) rfl rfl rfl;refine⟨_,p3,o5.aX aH.refl hn4,⟨E3.tb,E3.ab,E3.mb,E3.pb,E3.aO⟩,S3'.trans S5 ah,?_⟩;show∃pa par,AI Pk (cV (iL t3.a.es e'.ao _)) t3.aO pa par;rw[E3.aO,qT o3.tk.ok.rK tM,e1',e2',st3];exact⟨_,_,I5⟩
variable{A:List AV}{a:AV}{i:Nat}
abbrev Vc:=Hd×UInt8
def Vc.cells(x:Vc):List AV:=[int x.1.ao,u64 x.1.bk,u8 (x.2.toNat:Nat)]
theorem Gf:∀x:Vc,x.cells.length=3:=λ_=>rfl
section
variable{h:aG}{s x:AV}
theorem air:gj prog h #[415,415] s x=tw h 414 3 (dV h 3 x) s:=uy Su Iw aba Qa bN
theorem ajy{ev ps}:fy prog ev 415 1 ps=fG 414 1 (fo (λi=>some (i*3,3)) ev ps [int 0,u64 0,u8 0]):=ql Su Iw Qa bN rfl
end
attribute[go_sem] air ajy
def PS:Nat->cU:=λid=>if id=9 then[([0,1,2,3,4,5,10],[3],some 6),([7,8,9],[10],some 11),([],[],some 12),([],[],none)]else if id=12 then[(z5,[1],some 6),([],[],some 7),([],[],none)]else if id=23 then[([0,1,2,7,8],[],some 3),([4,5,6],[8],some 9),([],[],none)]else if id=24 then[(z5,[],some 6),([],[],none)]else[]
theorem al3{b c:AV}(h:(ed (i*3) A).bind (de 3)=some [a,b,c]):(ed (i*3) A).bind (de 2)=some [a,b]:=by
 cases hd:ed (i*3) A with
 |none=>rw[hd]at h;cases h
 |some B=>rw[hd]at h;have h:de 3 B=some [a,b,c]:=h;show de 2 B=some [a,b];obtain⟨h1,h2⟩:=qj 3 B _ h;rw[bO _ _ ah,show B.take 2=(B.take 3).take 2 by rw[bf];rfl,<-h1];rfl
theorem amB(t:At)(p:bj)(h:aG)(nx:Nat)(o:AW t p h nx)(I:AI Pk (cV t.a.es) t.aO pa par)(k:ba)(hl:k.length<=24):
 aA prog 266 [.ptr t.tb 0,bR k] h nx λw h' nx'=>(∃(old:ba) (lS:Bool),w= .dN [bR old,bQ lS])/\∃(t':At) (p':bj),AW t' p' h' nx'/\tv t t'/\dA nx t.own t'.own t.a.sl t'.a.sl p p' h h'/\LQ Pk t':=by
 have db:=o.tk.lt;refine aA.ac 2 PS func266 ?_;simp+decide-dsimp only[f266,go_sem];refine bm (aak t _ _ o.tk) ?_;simp+decide-dsimp only[go_sem,o.tk.tr,reduceAdd];have hrt:=I.rt;refine cL _ _ (λm s h' nx'=>∃(L:List Vc) (hd:Hd) (n:Ax) (key:ba) (V:AV),m=key.length/\L.length+key.length<=k.length+1/\0<L.length/\(L.getD (L.length-1) default).1=hd/\pa hd.ao++key=k/\cV t.a.es hd.ao=some (hd.bk,n)/\
  (1<L.length->∃nu,cV t.a.es (L.getD (L.length-2) default).1.ao=some ((L.getD (L.length-2) default).1.bk,nu)/\((L.getD (L.length-1) default).2,hd)∈nu.k.l)/\
  ao s 0= .ptr t.tb 0/\ao s 1=bR key/\ao s 6=V/\Own Vc.cells 414 3 h' V L/\In nx nx' V/\aH nx h h'/\nx<=nx') (n:=k.length) ?_ ?_
 .simp+decide-dsimp only[go_sem];obtain⟨n0,R6⟩:=hrt.1;refine⟨[(t.aO,0)],t.aO,n0,k,_,rfl,fE,bL,rfl,by rw[hrt.2];rfl,R6,λh=>absurd h bL,rfl,rfl,.inr ⟨nx,1,_,rfl,gl,an _,rfl,rfl⟩,.sl (an _) (aW _),aH.refl.set (an _)⟩
 rintro m s h' nx' ⟨L,hd,n,key,V,rfl,hLk,hL0,hLl,PH,hs,YE,s0,s1,s6,oV,iV,tW,Ce⟩;have o1:AW t p h' nx':=o.aX tW Ce;obtain⟨e,he,e1,e2,e3,e4,e5,_⟩:=ng o1.tk.ok hs;have Cs:n.k.ok h' nx':=by have:=o1.tk.kn e he;rw[e3]at this;exact this
 have bP:(pa hd.ao).length+key.length=k.length:=by rw[<-PH,aq]
 have EP:n.pre.length<=24:=by have:=I.len _ _ _ hs;simp only[aq]at this;omega
 have Iz:cF .i64 ((L.length:Int)-1)=((L.length-1:Nat):Int):=pC;have Pn:L.length-1<L.length:=ah;obtain⟨vb,A,v1,v2,v3,v4⟩:=oV.idx Gf Iw Pn;rw[Vc.cells,hLl]at v4;have v5:=al3 v4;have vl:=iV vb v1;simp+decide-dsimp only[go_sem,s0,s6,oV.len,Iz,v3,v2,v5];refine bm (Dd t _ _ o1.tk he e1 e2) ?_;simp+decide-dsimp only[go_sem,s1,e4,Ax.cells];refine aZ (ago key n.pre ah ah) ?_;have stay:∀H q,aH nx' h' H->nx'<=q->∃(t':At) (p':bj),AW t' p' H q/\tv t t'/\dA nx t.own t'.own t.a.sl t'.a.sl p p' h H/\LQ Pk t':=λH q qH hq=>⟨t,p,o1.aX qH hq,.refl t,.same (tW.trans qH Ce),pa,par,I⟩;cases hh:pF key n.pre with
 |false=>simp+decide-dsimp only[go_sem];exact⟨⟨_,_,rfl⟩,stay _ _ aH.refl ah⟩
 |true=>
  obtain⟨tV,rfl⟩:=Bj.1 hh;have M7:uB (n.pre++tV) n.pre=tV:=by unfold uB;rw[hh];simp
  rw[M7];cases tV with
  |cons b r=>
   have Jr:¬(b::r=[]):=bL;have er:zN (jq n.k.l b)= .dN [.agg [int ((jq n.k.l b).getD default).ao,u64 ((jq n.k.l b).getD default).bk],bQ (jq n.k.l b).isSome]:=rfl;have ge:∀q,¬(e.bJ=nx'+q):=λq=>ah;simp+decide-dsimp only[go_sem,PS,e4,ge,Jr,Ax.cells,reduceAdd];generalize hq:nx'+Array.size _=nq;have rm:nx'+13=nq:=hq;clear hq;refine bm (Vn n.k b _ nq (Cs.same ?_ ah)) ?_
   .repeat' first|exact aH.refl|apply aH.fJ|(apply aH.set;rotate_left;omega)
   rw[er];cases hkg:jq n.k.l b with
   |none=>
    simp+decide-dsimp only[go_sem,mA,reduceAdd];refine⟨⟨_,_,rfl⟩,stay _ _ ?_ ah⟩
    repeat' first|exact aH.refl|apply aH.fJ|(apply aH.set;rotate_left;omega)
   |some y=>
    have iI:=(kz (I.jr _ _ _ hs)).1 hkg;obtain⟨⟨m',i1⟩,i2,i3⟩:=I.lQ _ _ _ hs _ iI;have gq:∀q,¬(nx'+10=nq+q):=λq=>ah;simp+decide-dsimp only[go_sem,PS,s6,gq,qb,eK,cr,cB,reduceAdd];simp only[aq,bD]at hLk bP;refine km (c:=Vc.cells) (oV.aX λq e'=>?_) Gf (λ_=>rfl) (ah:L.length+1<65536) (y,b) ?_;.have:=iV q e';rw[aj,ak ah,aj,ak ah,aj,ak ah]
    intro V' h2 dU l2 p1 p2 p3;replace l2:nq+8<=dU:=l2;simp+decide-dsimp only[go_sem,s0,s1,s6];have g1:(L++[(y,b)]).getD (L.length+1-1) default=(y,b):=bL;have g2:(L++[(y,b)]).getD (L.length+1-2) default=L.getD (L.length-1) default:=by simp[List.getD,cj Pn]
    refine⟨r.length,ah,L++[(y,b)],y,m',r,V',rfl,?_,?_,?_,?_,i1,?_,rfl,rfl,p1,λq e'=>?_,?_,ah⟩;.simp;omega
    .simp
    .simp
    .rw[i2,ay,ay];exact PH
    .intro _;refine⟨n,?_,?_⟩;.rw[aq,gG,g2,hLl];exact hs
     .rw[aq,gG,g1];exact iI
    .rcases p2 q e' with w|w;.have:=iV q w;omega
     .have:=w.1;refine⟨?_,w.2⟩;replace this:nq+8<=q:=this;omega
    .intro c hc;rw[p3 c (by show c<nq+8;omega) (λe'=>by have:=iV c e';omega),aj,ak ah,aj,ak ah,aj,ak ah];exact tW c hc
  |nil=>
   have ne:¬(nx'=e.bJ):=ah;have ne':¬(e.bJ=nx'):=ah;have nt:¬(t.tb=nx'):=ah;have nt':¬(t.tb=e.bJ):=λe'=>o.tk.d3 e he e'.symm;have nv:¬(vb=nx'):=ah;have nv2:¬(nx'=t.tb):=ah;have v4':(ed ((L.length-1)*3) A).bind (de 3)=some [int hd.ao,u64 hd.bk,u8 ((L.getD (L.length-1) default).2.toNat:Nat)]:=v4;simp+decide-dsimp only[go_sem,s0,s1,s6,oV.len,Iz,v3,v2,v4',reduceAdd];generalize hH:aK (aK h' nx' _) nx' _=H;have H1:aH nx' h' H:=by
    rw[<-hH]
    repeat' first|exact aH.refl|apply aH.fJ|(apply aH.set;rotate_left;omega)
   have H2:au H nx'=some (.cells [int hd.ao,u64 hd.bk,u8 ((L.getD (L.length-1) default).2.toNat:Nat)] 414):=by rw[<-hH,aj,aw rfl]
   clear hH;have o2:AW t p H (nx'+1):=o1.aX H1 (bz _);have IS:au H e.bJ=some (.cells (u64 hd.bk::n.cells) 300):=by rw[H1 _ e5];exact e4
   refine bm (Dd t H (nx'+1) o2.tk he e1 e2) ?_;cases Hg:n.has with
   |false=>simp+decide-dsimp only[go_sem,IS,Hg,Ax.cells,reduceAdd];exact⟨⟨_,_,rfl⟩,stay _ _ H1 ah⟩
   |true=>
    have tr1:=o2.tk.tr;have he0:e.bJ<nx:=o.tk.dm (.inr (.inl (Ar.wT he)));obtain⟨o3,S3⟩:=o2.val he (x:={n with val:=[],has:=false}) (by rw[e3]);rw[e2]at o3 S3;obtain⟨o4,S4⟩:=o3.tree t.aO (cF .i64 (t.size-1));have st4:cV (iL t.a.es e.ao {n with val:=[],has:=false})=tq (cV t.a.es) hd.ao (some (hd.bk,{n with val:=[],has:=false})):=by rw[qT o.tk.ok.rK he,e1,e2];rfl
    have I4:=I.val hs [] false (λe=>by cases e);rw[<-st4]at I4;have hs4:cV (iL t.a.es e.ao {n with val:=[],has:=false}) hd.ao=some (hd.bk,{n with val:=[],has:=false}):=by rw[st4,gg]
    simp+decide-dsimp only[go_sem,s0,s6,IS,nt',tr1,Hg,oV.len,Ax.cells,reduceAdd];generalize hZ:aK (aK (aK H e.bJ _) e.bJ _) t.tb _=Z;have Z0:∀c,au Z c=au (aK (aK H e.bJ (.cells [u64 hd.bk,bR n.pre,bR [],bQ false,.ptr n.k.nb 0] 300)) t.tb (.cells [.ptr t.a.pb 0,.ptr t.a.ab 0,int t.aO.ao,u64 t.aO.bk,.g (.int .i64 (cF .i64 (t.size-1))),bQ false] 258)) c:=λc=>by
     rw[<-hZ,aj,aj,aj,aj,aj];split;.rfl
     .split<;>rfl
    clear hZ;have Z1:∀c,c≠e.bJ->c≠t.tb->au Z c=au H c:=λc h1 h2=>by rw[Z0,aj,ak h2,aj,ak h1]
    have Z2:au Z nx'=some (.cells [int hd.ao,u64 hd.bk,u8 ((L.getD (L.length-1) default).2.toNat:Nat)] 414):=by rw[Z1 _ ah ah];exact H2
    have Z3:au Z e.bJ=some (.cells [u64 hd.bk,bR n.pre,bR [],bQ false,.ptr n.k.nb 0] 300):=by rw[Z0,aj,ak (λe'=>nt' e'.symm),aj,aw rfl]
    have Z4:au Z vb=some (.cells A 414):=by rw[Z1 _ ah ah,H1 _ vl.2];exact v2
    obtain⟨t4,ht4⟩:∃t4:At,t4={t with aO:=t.aO,size:=cF .i64 (t.size-1),a:={t.a with es:=iL t.a.es e.ao {n with val:=[],has:=false}}}:=⟨_,rfl⟩;have o5:AW t4 p Z (nx'+1):=by rw[ht4];exact o4.aX (λc _=>Z0 c) (an _)
    have S5:dA nx t.own t4.own t.a.sl t4.a.sl p p h Z:=by rw[ht4];exact((((dA.same tW).trans (dA.same H1) Ce).trans S3 ah).trans S4 ah).trans (dA.same λc _=>Z0 c) (Nat.le_succ_of_le Ce)
    have E4:tv t t4:=by rw[ht4];exact⟨rfl,rfl,rfl,rfl,rfl⟩
    have st5:cV t4.a.es=tq (cV t.a.es) hd.ao (some (hd.bk,{n with val:=[],has:=false})):=by rw[ht4];exact st4
    have I5:AI Pk (cV t4.a.es) t4.aO pa par:=by rw[ht4];exact I4
    have hs5:cV t4.a.es hd.ao=some (hd.bk,{n with val:=[],has:=false}):=by rw[ht4];exact hs4
    have Te:∀c,t4.own c->t.own c:=λc hc=>by
     have h1:=o5.tk.dm hc;rw[ht4]at hc;rcases S4.bl c hc with w|w
     .rcases S3.bl c w with w|w;.exact w
      .omega
     .omega
    clear ht4 I4 hs4 st4 S3 S4 o3 o4;by_cases N0:1<L.length
    case neg=>have Se:¬(1<(L.length:Int)):=ah;simp+decide-dsimp only[go_sem,s0,Se,Z2];have c:=ab5 t4 p Z (nx'+1) o5 I5 hd _ hs5;rw[E4.tb]at c;refine cf c λ_ h6 IT l6 ⟨ev,t6,p6,o6,E6,S6,T6⟩=>?_;subst ev;simp+decide-dsimp only[go_sem];exact⟨⟨_,_,rfl⟩,t6,p6,o6,E4.trans E6,S5.trans S6 ah,T6⟩
    have Se:(1<(L.length:Int)):=ah;have alJ:n.k.ok Z (nx'+1):=by obtain⟨f,hf,f1,f2,f3⟩:=lG hs5;have:=o5.tk.kn f hf;rw[f3]at this;exact this
    simp+decide-dsimp only[go_sem,Se,Z3,reduceAdd];refine bm (ajx n.k Z (nx'+1) alJ) ?_;by_cases hl0:n.k.l.length=0
    case neg=>have abJ:¬((n.k.l.length:Int)=0):=ah;simp+decide-dsimp only[go_sem,s0,Se,abJ,Z2];have c:=ab5 t4 p Z (nx'+1) o5 I5 hd _ hs5;rw[E4.tb]at c;refine cf c λ_ h6 IT l6 ⟨ev,t6,p6,o6,E6,S6,T6⟩=>?_;subst ev;simp+decide-dsimp only[go_sem];exact⟨⟨_,_,rfl⟩,t6,p6,o6,E4.trans E6,S5.trans S6 ah,T6⟩
    have abJ:((n.k.l.length:Int)=0):=ah;obtain⟨nu,u1,u2⟩:=YE N0;obtain⟨up,hupe⟩:∃up:Vc,up=L.getD (L.length-2) default:=⟨_,rfl⟩;obtain⟨bb,Q7⟩:∃bb:UInt8,bb=(L.getD (L.length-1) default).2:=⟨_,rfl⟩;rw[<-hupe]at u1;rw[<-Q7]at u2 Z2;obtain⟨vb',A',x1,x2,x3,x4⟩:=oV.idx Gf Iw (i:=L.length-2) ah;rw[v1]at x1;cases x1;rw[v2]at x2;injection x2 with x2;cases x2
    rw[<-hupe,Vc.cells]at x4;have hw3:cF .i64 ((L.length:Int)-2)=((L.length-2:Nat):Int):=pC;have cx:=I.Ba u1 u2;have cx:hd.ao≠up.1.ao:=cx;have u5:cV t4.a.es up.1.ao=some (up.1.bk,nu):=by rw[st5,iS cx.symm];exact u1
    have nv3:¬(vb=nx'+1):=ah;have amf:¬(nx'=nx'+1):=ah;simp+decide-dsimp only[go_sem,PS,s0,s6,Se,abJ,hw3,x3,Z4,x4,oV.len,Z2,amf,reduceAdd];generalize hq:nx'+1+1+Array.size _=nq;have rm:nx'+2<=nq:=ah;clear hq;generalize hY:aK (aK Z (nx'+1) _) (nx'+1) _=Y;have Y1:aH (nx'+1) Z Y:=by
     rw[<-hY]
     repeat' first|exact aH.refl|apply aH.fJ|(apply aH.set;rotate_left;omega)
    have Y2:au Y (nx'+1)=some (.cells [int up.1.ao,u64 up.1.bk,u8 (up.2.toNat:Nat)] 414):=by rw[<-hY,aj,aw rfl]
    have Y3:au Y nx'=some (.cells [int hd.ao,u64 hd.bk,u8 (bb.toNat:Nat)] 414):=by rw[Y1 _ (aW _)];exact Z2
    clear hY;have oY:AW t4 p Y nq:=o5.aX Y1 ah;obtain⟨fu,hfu,fu1,fu2,fu3,fu4,fu5,_⟩:=ng oY.tk.ok u5;have cY:=Dd t4 Y nq oY.tk hfu fu1 fu2;rw[E4.tb]at cY;refine bm cY ?_;simp+decide-dsimp only[go_sem,fu4,Y3,Ax.cells,reduceAdd];have hku:nu.k.ok Y nq:=by have:=oY.tk.kn fu hfu;rw[fu3]at this;exact this
    have akZ:∀c,nu.k.own c->c<nx:=λc hc=>o.tk.dm (Te c (.inr (.inr ⟨fu,hfu,by rw[fu3];exact hc⟩)));refine cf (amK nu.k bb Y nq hku) λ_ h5 Yt l5 ⟨⟨_,ev⟩,k',r1,r2,St⟩=>?_;subst ev;obtain⟨o6,S6⟩:=oY.bU hfu r2 (by rw[fu3];exact St) (an _) l5;rw[fu3]at o6 S6;have h5o:∀c,nx<=c->c<nq->au h5 c=au Y c:=λc hc wA=>St.aX c wA (λe'=>by have:=akZ c e';omega);have W2:au h5 (nx'+1)=some (.cells [int up.1.ao,u64 up.1.bk,u8 (up.2.toNat:Nat)] 414):=by rw[h5o _ ah ah];exact Y2
    have W3:au h5 nx'=some (.cells [int hd.ao,u64 hd.bk,u8 (bb.toNat:Nat)] 414):=by rw[h5o _ ah ah];exact Y3
    have tr6:=o6.tk.tr;simp only[E4.tb,E4.ab]at tr6;have st6:cV (iL t4.a.es fu.ao {nu with k:=k'})=tq (cV t4.a.es) up.1.ao (some (up.1.bk,{nu with k:=k'})):=by rw[qT oY.tk.ok.rK hfu,fu1,fu2];rfl
    have hs6:cV (iL t4.a.es fu.ao {nu with k:=k'}) hd.ao=some (hd.bk,{n with val:=[],has:=false}):=by rw[st6,iS cx];exact hs5
    simp+decide-dsimp only[go_sem,PS,s0,W3,tr6];generalize hq:Yt+Array.size _=n6;have hn6:Yt<=n6:=ah;clear hq;have o7:=o6.aX aH.refl hn6;have c7:=aj4 _ p h5 n6 o7 hd _ hs6;rw[<-E4.ab];refine cf c7 λ_ h8 n8 l8 ⟨ev,t7,p7,o8,E7,z7,S7,st7,c7,m7,k7⟩=>?_;subst ev;have b1:=o.pk.rY;have b2:=o.pk.ss;have b3:=o.pk.sr;have aiA:∀c,nx<=c->c<nq->au h8 c=au h5 c:=λc hc wA=>S7.aX c ah (λe'=>by
     rcases S6.bl c e' with w|w;.have:=o.tk.dm (Te c w);omega
     .omega) ah ah ah
    have V2:au h8 (nx'+1)=some (.cells [int up.1.ao,u64 up.1.bk,u8 (up.2.toNat:Nat)] 414):=by rw[aiA _ ah ah];exact W2
    have V3:au h8 nx'=some (.cells [int hd.ao,u64 hd.bk,u8 (bb.toNat:Nat)] 414):=by rw[aiA _ ah ah];exact W3
    simp+decide-dsimp only[go_sem,s0,V2,V3,reduceAdd];generalize hX:aK h8 nx' _=X;have X1:∀c,c≠nx'->au X c=au h8 c:=λc hc=>by rw[<-hX,aj,ak hc]
    clear hX;have akK:∀c,t7.own c->c≠nx':=λc hc e'=>by
     rcases S7.bl c hc with w|w
     .rcases S6.bl c w with w|w;.have:=o.tk.dm (Te c w);omega
      .omega
     .omega
    have oX:AW t7 p7 X n8:=⟨o8.tk.aX (λc hc=>X1 c (akK c hc)) (an _),o8.pk.iy (X1 _ (by rw[S7.pb];omega)) (X1 _ (by rw[S7.gb];omega)) (X1 _ (by rw[S7.fb];omega)) (an _),o8.sp,o8.sd⟩;have I7:=I5.drop u5 u2 (n':={nu with k:=k'}) rfl rfl r1;have ani:cV t7.a.es up.1.ao=some (up.1.bk,{nu with k:=k'}):=by rw[st7,iS cx.symm];show cV (iL _ _ _) _=_;rw[st6,gg]
    have I7':AI Pk (cV t7.a.es) t7.aO pa par:=by rw[st7,E7.aO];show AI Pk (tq (cV (iL t4.a.es fu.ao {nu with k:=k'})) hd.ao none) t4.aO pa par;rw[st6];exact I7
    have c:=ab5 t7 p7 X n8 oX I7' up.1 _ ani;rw[E7.tb,E4.tb]at c;refine cf c λ_ h9 nx9 l9 ⟨ev,t9,p9,o9,E9,S9,T9⟩=>?_;subst ev;simp+decide-dsimp only[go_sem];have SX:dA nx t7.own t7.own t7.a.sl t7.a.sl p7 p7 h8 X:=dA.same λc hc=>X1 c ah;exact⟨⟨_,_,rfl⟩,t9,p9,o9,⟨E9.tb.trans (E7.tb.trans E4.tb),E9.ab.trans (E7.ab.trans E4.ab),E9.mb.trans (E7.mb.trans E4.mb),E9.pb.trans (E7.pb.trans E4.pb),E9.aO.trans (E7.aO.trans E4.aO)⟩,(((((S5.trans (dA.same Y1) ah).trans S6 ah).trans S7 ah).trans SX (an _)).trans S9 ah),T9⟩
variable{N nx':Nat}{V:AV}
def qR(σ:Ju):Nat->Nat->ba->List Pr
 |0,_,_=>[]
 |d+1,s,path=>match σ s with
  |none=>[]
  |some x=>(if x.2.has then[(path++x.2.pre,x.2.val)]else[])++x.2.k.l.flatMap λe=>qR σ d e.2.ao (path++x.2.pre++[e.1])
theorem Eg{σ:Ju}{d s g:Nat}{n:Ax}{path:ba}(h:σ s=some (g,n)):qR σ (d+1) s path=(if n.has then[(path++n.pre,n.val)]else[])++n.k.l.flatMap λe=>qR σ d e.2.ao (path++n.pre++[e.1]):=by simp only[qR,h]
structure qo(t:At)(N:Nat)(h:aG)(nx:Nat)(V:AV)(L:List Pr):Prop where
 ok:t.ok h nx
 lt:∀b,t.own b->b<N
 b1:au h N=some (.cells [.ptr t.tb 0] 215)
 b4:au h (N+2)=some (.cells [.fn 274 [.ptr N 0,.ptr (N+1) 0,.ptr (N+2) 0]] 404)
 b3:au h (N+1)=some (.cells [V] 68)
 v:Own Pr.cells 88 2 h V L
 iv:In (N+3) nx V
 nx:N+3<=nx
def E8(N nx:Nat)(V V':AV)(h h':aG):Prop:=(∀b,b<nx->b≠N+1->bZ V≠some b->au h' b=au h b)/\∀b,bZ V'=some b->bZ V=some b\/nx<=b
theorem qo.iy{t:At}{L:List Pr}(o:qo t N h nx V L)(s:∀b,b<N+3->au h' b=au h b)(s':∀b,bZ V=some b->au h' b=au h b)(hn:nx<=nx'):qo t N h' nx' V L:=
 ⟨o.ok.aX (λb hb=>s b (by have:=o.lt b hb;omega)) hn,o.lt,by rw[s _ ah];exact o.b1,by rw[s _ ah];exact o.b4,by rw[s _ ah];exact o.b3,o.v.aX s',o.iv.le (an _) hn,by have:=o.nx;omega⟩
theorem qo.same{t:At}{L:List Pr}(o:qo t N h nx V L)(s:aH nx h h')(hn:nx<=nx'):qo t N h' nx' V L:=
 ⟨o.ok.aX (λb hb=>s b (o.ok.dm hb)) hn,o.lt,by rw[s _ (by have:=o.nx;omega)];exact o.b1,by rw[s _ (by have:=o.nx;omega)];exact o.b4,by rw[s _ (by have:=o.nx;omega)];exact o.b3,o.v.aX λb hb=>s b (o.iv b hb).2,o.iv.le (an _) hn,by have:=o.nx;omega⟩
def ach:Nat->cU:=λid=>if id=2 then[(z5,[],some 6),([],[],none)]else if id=4 then[(z7,[0,1,5],some 8),([],[],some 9),([],[],none)]else[]
theorem al0(t:At)(I:AI Pk (cV t.a.es) t.aO pa par)(N:Nat):∀(d:Nat) (hd:Hd) (n:Ax),cV t.a.es hd.ao=some (hd.bk,n)->25<=d+(pa hd.ao).length->∀(L:List Pr) (V:AV) (h:aG) (nx:Nat),qo t N h nx V L->L.length+(qR (cV t.a.es) d hd.ao (pa hd.ao)).length<=60000->
 aA prog 274 [.agg [int hd.ao,u64 hd.bk],bR (pa hd.ao),.ptr N 0,.ptr (N+1) 0,.ptr (N+2) 0] h nx λw h' nx'=>w= .dN []/\nx<=nx'/\∃V',qo t N h' nx' V' (L++qR (cV t.a.es) d hd.ao (pa hd.ao))/\E8 N nx V V' h h':=by
 intro d
 induction d with
 |zero=>intro hd n hs hd0;have:=I.len _ _ _ hs;simp only[aq]at this;omega
 |succ d ih=>
  intro hd n hs hd0 L V h nx o bP;rw[Eg hs]at bP⊢;have hN:=o.nx;obtain⟨e,he,e1,e2,e3,e4,e5,_⟩:=ng o.ok.ok hs;have wv:=I.len _ _ _ hs;simp only[aq]at wv;have heb:e.bJ<N:=o.lt _ (.inr (.inl (Ar.wT he)));have c1:¬(N=nx):=ah;have c2:¬(N=nx+1):=ah;have c3:¬(N+1=nx):=ah;have c4:¬(N+1=nx+1):=ah;have c5:¬(N+2=nx):=ah;have c6:¬(N+2=nx+1):=ah;have c7:¬(e.bJ=nx):=ah;have c8:¬(e.bJ=nx+1):=ah;have ta:∀h x y,cZ prog h .add 9 x y (bR (pa hd.ao)) (bR n.pre)=some (bR (pa hd.ao++n.pre)):=λh x y=>jv ah;refine aA.QB prog xt pk ach (λ_=>[]) func274 (c:=f274.body.getD .skip) rfl rfl aL aL (by show 5<=_;decide) ?_;simp+decide-dsimp only[f274,go_sem,o.b1,c1,c2];generalize hH:aK (aK h nx _) (nx+1) _=H;have H1:aH nx h H:=by
   rw[<-hH]
   repeat' first|exact aH.refl|apply aH.fJ|(apply aH.set;rotate_left;omega)
  have H2:au H (nx+1)=some (.cells [bR (pa hd.ao)] 9):=by rw[<-hH,aj,aw rfl]
  clear hH;have o1:=o.same H1 (ah:nx<=nx+2);refine bm (Dd t H (nx+2) o1.ok he e1 e2) ?_;have IS:au H e.bJ=some (.cells (u64 hd.bk::n.cells) 300):=by rw[H1 _ e5];exact e4
  simp+decide-dsimp only[go_sem,ach,IS,H2,c8,ta,Ax.cells,reduceAdd];generalize tz:nx+2+Array.size _=n2;have Gq:nx+2<=n2:=ah;clear tz;generalize hG:aK H (nx+1) _=G;have G1:aH (nx+1) H G:=by rw[<-hG];exact aH.refl.set (an _)
  have G2:au G (nx+1)=some (.cells [bR (pa hd.ao++n.pre)] 9):=by rw[<-hG,aj,aw rfl]
  clear hG;have P':aH nx h G:=λb hb=>by rw[G1 b ah,H1 b hb]
  have o2:qo t N G n2 V L:=o.same P' ah;have e4G:au G e.bJ=some (.cells (u64 hd.bk::n.cells) 300):=by rw[P' _ e5];exact e4
  cases hh:n.has
  case' false=>
   rw[hh]at bP;simp+decide-dsimp only[go_sem,e4G,hh,Ax.cells,reduceAdd];have K2:E8 N nx V V h G:=⟨λb hb _ _=>P' b hb,λb hb=> .inl hb⟩;obtain⟨L1,N0⟩:∃L1,L1=L++(if false=true then[(pa hd.ao++n.pre,n.val)]else[]):=⟨_,rfl⟩;have oo:qo t N G n2 V L1:=by rw[N0];simpa using o2
   obtain⟨V1,oV1,KV1,aiM⟩:∃V1,qo t N G n2 V1 L1/\E8 N nx V V1 h G/\bZ V1≠some (nx+1):=⟨V,oo,K2,λe'=>by have:=(o.iv _ e').2;omega⟩;clear oo K2 o2 P' G1;obtain⟨Z,rfl⟩:∃Z,Z=G:=⟨_,rfl⟩;obtain⟨nz,rfl⟩:∃nz,nz=n2:=⟨_,rfl⟩;have pZ:=G2;have eZ:=e4G;have hnz:=Gq;clear G2 e4G Gq
  case' true=>
   rw[hh]at bP;have g1:∀q,¬(N+1=n2+q):=λq=>ah;have g2:∀q,¬(nx+1=n2+q):=λq=>ah;have g3:∀q,¬(e.bJ=n2+q):=λq=>ah;simp+decide-dsimp only[go_sem,ach,e4G,G2,o2.b3,g1,g2,g3,hh,cr,cB,Ax.cells,reduceAdd];refine km (c:=Pr.cells) (o2.v.aX λq e'=>?_) Fb (λ_=>rfl) (by simp at bP;omega:L.length+1<65536) (pa hd.ao++n.pre,n.val) ?_;.have:=o2.iv q e';rw[aj,ak ah]
   intro V1 h2 nz l2 p1 p2 p3;replace l2:n2+10<=nz:=l2;replace p2:∀b,bZ V1=some b->bZ V=some b\/(n2+10<=b/\b<nz):=p2;have p4:∀b,b<n2->bZ V≠some b->au h2 b=au G b:=λb hb hv=>by rw[p3 b (by show b<n2+10;omega) hv,aj,ak ah]
   have k1:au h2 (N+1)=some (.cells [V] 68):=by rw[p4 _ ah (λe'=>by have:=o2.iv _ e';omega)];exact o2.b3
   have hVb:∀b,bZ V=some b->N+3<=b/\b<nx:=λb hb=>o.iv b hb;have hnv:∀b,b<N+3->bZ V≠some b:=λb hb e'=>by have:=hVb b e';omega
   have Ve:au h2 e.bJ=some (.cells (u64 hd.bk::n.cells) 300):=by rw[p4 _ ah (hnv _ ah)];exact e4G
   have LX:¬(e.bJ=N+1):=ah;simp+decide-dsimp only[go_sem,k1,p1.cells.1,p1.cells.2,Ve,LX,Ax.cells,reduceAdd];generalize hZ:aK h2 (N+1) _=Z;have Z1:∀b,b≠N+1->au Z b=au h2 b:=λb hb=>by rw[<-hZ,aj,ak hb]
   have Z2:au Z (N+1)=some (.cells [V1] 68):=by rw[<-hZ,aj,aw rfl]
   clear hZ;have Z3:∀b,b<n2->b≠N+1->bZ V≠some b->au Z b=au G b:=λb h1 h2 h3=>by rw[Z1 b h2,p4 b h1 h3]
   have eZ:au Z e.bJ=some (.cells (u64 hd.bk::n.cells) 300):=by rw[Z3 _ ah ah (hnv _ ah)];exact e4G
   have pZ:au Z (nx+1)=some (.cells [bR (pa hd.ao++n.pre)] 9):=by rw[Z3 _ ah ah (λe'=>by have:=hVb _ e';omega)];exact G2
   obtain⟨L1,N0⟩:∃L1,L1=L++(if true=true then[(pa hd.ao++n.pre,n.val)]else[]):=⟨_,rfl⟩;have oV1:qo t N Z nz V1 L1:=by
    refine⟨o2.ok.aX (λb hb=>?_) ah,o.lt,?_,?_,Z2,?_,λb hb=>?_,ah⟩;.have:=o.lt b hb;rw[Z3 b ah ah (hnv _ ah)]
    .rw[Z3 _ ah ah (hnv _ ah)];exact o2.b1
    .rw[Z3 _ ah ah (hnv _ ah)];exact o2.b4
    .rw[N0,aw rfl];refine p1.aX λb hb=>Z1 b ?_;rcases p2 b hb with w|w
     .have:=hVb b w;omega
     .omega
    .rcases p2 b hb with w|w;.have:=hVb b w;omega
     .omega
   have KV1:E8 N nx V V1 h Z:=⟨λb hb h1 h2=>by rw[Z3 b ah h1 h2];exact P' b hb,λb hb=>(p2 b hb).imp id (λw=>ah)⟩;have hnz:nx+2<=nz:=ah;have aiM:bZ V1≠some (nx+1):=λe'=>by
    rcases p2 _ e' with w|w;.have:=hVb _ w;omega
    .omega
   clear Ve hVb Z1 Z2 Z3 hnv p1 p2 p3 p4 k1 o2 P' G1
  all_goals
   have Cs:n.k.ok Z nz:=by have:=oV1.ok.kn e he;rw[e3]at this;exact this
   have hko:∀b,n.k.own b->b<N:=λb hb=>o.lt b (.inr (.inr ⟨e,he,by rw[e3];exact hb⟩));refine cf (afx n.k Z nz Cs) λ_ h3 n3 l3 ⟨a,b,K,H',ev,C,sm3⟩=>?_;subst ev;simp+decide-dsimp only[go_sem];have o3:=oV1.same sm3 l3;have vA:L1.length+(n.k.l.flatMap λe=>qR (cV t.a.es) d e.2.ao (pa hd.ao++n.pre++[e.1])).length<=60000:=by rw[N0,aq];rw[aq]at bP;omega
   refine Rs (by have:=Cs.sh.RQ.len;omega) C (an _) rfl λr0 yT=>⟨λi h' nx'=>∃Vi,qo t N h' nx' Vi (L1++(n.k.l.take i).flatMap λe=>qR (cV t.a.es) d e.2.ao (pa hd.ao++n.pre++[e.1]))/\
    (∀b,b<n3+2->b≠N+1->bZ V1≠some b->au h' b=au (aK (aK h3 n3 (.defs (some []))) (n3+1) (.loop r0)) b)/\(∀b,bZ Vi=some b->bZ V1=some b\/n3+2<=b)/\n3+2<=nx',?_,?_,?_,?_⟩
   .refine⟨V1,?_,λ_ _ _ _=>rfl,λb hb=> .inl hb,an _⟩;have:=o3.same (h':=aK (aK h3 n3 (.defs (some []))) (n3+1) (.loop r0)) ((aH.refl.set (an _)).set ah) (ah:n3<=n3+2);simpa using this
   .rintro i h' nx' ⟨Vi,q1,q2,q3,q4⟩;have I9:∀b,bZ V1=some b->b<nz:=λb hb=>(oV1.iv b hb).2
    refine⟨?_,λc hc=>?_⟩;.rw[q2 _ ah ah (λe'=>by have:=I9 _ e';omega),aj,aw rfl]
    .have NH:nz<=c/\c<n3:=by
      rcases hc with rfl|rfl|w|w;.exact C.ia
      .exact C.ib
      .exact C.ik c w
      .exact C.ih c w
     rw[q2 c ah ah (λe'=>by have:=I9 _ e';omega),aj,ak ah,aj,ak ah]
   .rintro i h' nx' hi ⟨Vi,q1,q2,q3,q4⟩;have I9:∀b,bZ V1=some b->b<nz:=λb hb=>(oV1.iv b hb).2
    have m1:au h' (nx+1)=some (.cells [bR (pa hd.ao++n.pre)] 9):=by rw[q2 _ ah ah aiM,aj,ak ah,aj,ak ah,sm3 _ ah];exact pZ
    have m2:au h' (n3+1)=some (.loop r0):=by rw[q2 _ ah ah (λe'=>by have:=I9 _ e';omega),aj,aw rfl]
    have j1:¬(N+2=nx'):=ah;have j2:¬(N+2=n3+1):=ah;have j3:¬(n3+1=nx'):=ah;have j4:¬(nx'=n3+1):=ah;have j5:¬(nx+1=nx'):=ah;have j6:¬(nx+1=n3+1):=ah;have hkf:(kf n.k.l).getD i 0=n.k.l[i].1:=by simp[List.getD,hi]
    have hkh:(kh n.k.l).getD i default=n.k.l[i].2:=by simp[List.getD,hi]
    have iI:n.k.l[i]∈n.k.l:=bS hi;obtain⟨⟨m',i1⟩,i2,i3⟩:=I.lQ _ _ _ hs _ iI;rw[hkf,hkh];have tb:∀h x y,cZ prog h .add 9 x y (bR (pa hd.ao++n.pre)) (bR [n.k.l[i].1])=some (bR (pa hd.ao++n.pre++[n.k.l[i].1])):=λh x y=>jv fE;refine jH.mk2 pk (λ_=>[]) yT m2 aL λrb=>?_;simp+decide-dsimp only[go_sem,q1.b4,m1,m2,j1,j2,j3,j4,j5,j6,tb,cr,cB,Hd.cells,reduceAdd];rw[<-i2];have hvi:∀b,bZ Vi=some b->(b<nz\/n3+2<=b)/\b<nx':=λb hb=>⟨(q3 b hb).imp (λw=>I9 b w) id,(q1.iv b hb).2⟩;generalize hX:aK (aK (aK (aK h' nx' _) nx' _) (n3+1) _) (nx'+1) _=X;have X1:∀c,c≠nx'->c≠n3+1->c≠nx'+1->au X c=au h' c:=λc y1 y2 y3=>by rw[<-hX,aj,ak y3,aj,ak y2,aj,ak y1,aj,ak y1]
    have X2:au X (n3+1)=some (.loop rb):=by rw[<-hX,aj,ak ah,aj,aw rfl]
    clear hX;have q1':qo t N X (nx'+2) Vi (L1++(n.k.l.take i).flatMap λe=>qR (cV t.a.es) d e.2.ao (pa hd.ao++n.pre++[e.1])):=q1.iy (λb hb=>X1 b ah ah ah) (λb hb=>by have:=hvi b hb;exact X1 b ah ah ah) ah;have Jc:(n.k.l.take (i+1)).flatMap (λe=>qR (cV t.a.es) d e.2.ao (pa hd.ao++n.pre++[e.1]))=(n.k.l.take i).flatMap (λe=>qR (cV t.a.es) d e.2.ao (pa hd.ao++n.pre++[e.1]))++qR (cV t.a.es) d n.k.l[i].2.ao (pa n.k.l[i].2.ao):=by rw[b9 hi,cM,i2];simp
    have db:(L1++(n.k.l.take i).flatMap λe=>qR (cV t.a.es) d e.2.ao (pa hd.ao++n.pre++[e.1])).length+(qR (cV t.a.es) d n.k.l[i].2.ao (pa n.k.l[i].2.ao)).length<=60000:=by
     have adT:(n.k.l.take (i+1)).flatMap (λe=>qR (cV t.a.es) d e.2.ao (pa hd.ao++n.pre++[e.1]))++(n.k.l.drop (i+1)).flatMap (λe=>qR (cV t.a.es) d e.2.ao (pa hd.ao++n.pre++[e.1]))=n.k.l.flatMap (λe=>qR (cV t.a.es) d e.2.ao (pa hd.ao++n.pre++[e.1])):=by rw[<-cM,bY]
     have:=fN List.length adT;rw[Jc]at this;simp only[aq]at this vA⊢;omega
    have O6:25<=d+(pa n.k.l[i].2.ao).length:=by rw[i2];simp only[aq,gG];omega
    refine cf (ih n.k.l[i].2 m' i1 O6 _ Vi X (nx'+2) q1' db) λ_ h5 n5 l5 ⟨ev,l5',V5,q5,K5⟩=>?_;subst ev;have z1:au h5 (n3+1)=some (.loop rb):=by rw[K5.1 _ ah ah (λe'=>by have:=hvi _ e';omega)];exact X2
    have hv5:∀b,bZ V5=some b->bZ V1=some b\/n3+2<=b:=λb hb=>by
     rcases K5.2 b hb with w|w;.exact q3 b w
     .right;omega
    simp+decide-dsimp only[go_sem,z1];rw[Jc,<-ay];refine⟨V5,q5.iy (λb hb=>yL) (λb hb=>by
     have h1:b≠n3+1:=by
      rcases hv5 b hb with w|w;.have:=I9 b w;omega
      .omega
     rw[aj,ak h1]) (an _),λb h1 h2 h3=>?_,hv5,ah⟩
    by_cases hb:b=n3+1;.subst hb;simp
    .have alf:bZ Vi≠some b:=λe'=>by
      rcases q3 b e' with w|w;.exact h3 w
      .omega
     rw[ak hb,ak hb,K5.1 b ah h2 alf,X1 b ah hb ah,q2 b h1 h2 h3,aj,ak hb,aj]
   .rintro h' nx' ⟨Vi,q1,q2,q3,q4⟩;have I9:∀b,bZ V1=some b->b<nz:=λb hb=>(oV1.iv b hb).2
    rw[oR]at q1;dsimp only[jm.bJ];have hvi:∀b,bZ Vi=some b->b<nz\/n3+2<=b:=λb hb=>(q3 b hb).imp (λw=>I9 b w) id;refine⟨?_,[],rfl,rfl,ah,Vi,?_,λb hb h1 h2=>?_,λb hb=>?_⟩;.rw[aj,ak ah,q2 _ ah ah (λe'=>by have:=I9 _ e';omega),aj,ak ah,aj,aw rfl]
    .rw[N0,ay]at q1;exact q1.iy (λb hb=>by rw[aj,ak ah,aj,ak ah]) (λb hb=>by have:=hvi b hb;rw[aj,ak ah,aj,ak ah]) (an _)
    .have am1:bZ V1≠some b:=λe'=>by
      rcases KV1.2 b e' with w|w;.exact h2 w
      .omega
     rw[aj,ak ah,aj,ak ah,q2 b ah h1 am1,aj,ak ah,aj,ak ah,sm3 b ah];exact KV1.1 b hb h1 h2
    .rcases q3 b hb with w|w;.exact KV1.2 b w
     .right;omega
section
variable{Pk:ba->Prop}{σ:Ju}{aO:Hd}{pa:Nat->ba}{par:Nat->Nat}
theorem ada{a b:UInt8}(h:a<b)(P r r':ba):P++a::r<P++b::r':=by
 induction P with
 |nil=>exact du.2 (.inl h)
 |cons x P ih=>exact du.2 (.inr ⟨rfl,ih⟩)
theorem abH{P:ba}{b:UInt8}{r:ba}:P<P++b::r:=by
 induction P with
 |nil=>simp
 |cons x P ih=>exact du.2 (.inr ⟨rfl,ih⟩)
theorem AI.all(I:AI Pk σ aO pa par):∀(d s g:Nat) (n:Ax),σ s=some (g,n)->
 (∀e∈qR σ d s (pa s),(∃r,e.1=pa s++r)/\∃s' g' n',σ s'=some (g',n')/\n'.has=true/\e.1=pa s'++n'.pre)/\((qR σ d s (pa s)).map Prod.fst).Pairwise (· < ·):=by
 intro d
 induction d with
 |zero=>intro s g n h;exact⟨λe he=>(by cases he),List.Pairwise.nil⟩
 |succ d ih=>
  intro s g n h;rw[Eg h];have hk:∀e∈n.k.l,(∀q∈qR σ d e.2.ao (pa s++n.pre++[e.1]),(∃r,q.1=pa s++n.pre++e.1::r)/\∃s' g' n',σ s'=some (g',n')/\n'.has=true/\q.1=pa s'++n'.pre)/\((qR σ d e.2.ao (pa s++n.pre++[e.1])).map Prod.fst).Pairwise (· < ·):=by intro e he;obtain⟨⟨m,i1⟩,i2,_⟩:=I.lQ _ _ _ h e he;rw[<-i2];obtain⟨h1,h2⟩:=ih _ _ _ i1;refine⟨λq hq=>?_,h2⟩;obtain⟨⟨r,hr⟩,h3⟩:=h1 q hq;exact⟨⟨r,by rw[hr,i2];simp⟩,h3⟩
  refine⟨λe he=>?_,?_⟩
  .rcases bp.1 he with he|he
   .cases hh:n.has with
    |false=>rw[hh]at he;cases he
    |true=>
     rw[hh]at he;have he:e=(pa s++n.pre,n.val):=by simpa using he
     subst he;exact⟨⟨n.pre,rfl⟩,s,g,n,h,hh,rfl⟩
   .obtain⟨q,hq,hq'⟩:=dp.1 he;obtain⟨⟨r,hr⟩,h3⟩:=(hk q hq).1 e hq';exact⟨⟨n.pre++q.1::r,by rw[hr];simp⟩,h3⟩
  .rw[dB,im];refine⟨by cases n.has<;>simp,?_,λa ha b hb=>?_⟩;.rw[List.map_flatMap,List.pairwise_flatMap];refine⟨λe he=>(hk e he).2,?_⟩;have hs:(n.k.l.map Prod.fst).Pairwise (· < ·):=I.jr _ _ _ h;refine(List.pairwise_map.1 hs).imp_of_mem λ{e e'} he tM db x hx y hy=>?_;obtain⟨q,hq,rfl⟩:=bu.1 hx;obtain⟨q',hq',rfl⟩:=bu.1 hy;obtain⟨⟨r,hr⟩,_⟩:=(hk e he).1 q hq;obtain⟨⟨r',qa⟩,_⟩:=(hk e' tM).1 q' hq';rw[hr,qa];exact ada db _ _ _
   .obtain⟨q,hq,rfl⟩:=bu.1 hb;obtain⟨e,he,hq⟩:=dp.1 hq;obtain⟨⟨r,hr⟩,_⟩:=(hk e he).1 q hq;have ha:a=pa s++n.pre:=by
     cases hh:n.has with
     |false=>rw[hh]at ha;cases ha
     |true=>rw[hh]at ha;simpa using ha
    rw[ha,hr];exact abH
theorem yz{α:Type}[DecidableEq α]:∀(l m:List α),l.Nodup->(∀x∈l,x∈m)->l.length<=m.length
 |[],_,_,_=>aY _
 |x::l,m,hn,hs=>by have hx:=hs x bL;have:=yz l (m.erase x) (jG.1 hn).2 λy hy=>(DJ (λe=>(jG.1 hn).1 (by rw[<-e];exact hy))).2 (hs y (by simp[hy]));rw[xS hx]at this;have:=mB hx;simp only[bD];omega
end
def At.all(t:At):List Pr:=qR (cV t.a.es) 25 t.aO.ao []
theorem AI.zP{Pk:ba->Prop}{t:At}{pa:Nat->ba}{par:Nat->Nat}(I:AI Pk (cV t.a.es) t.aO pa par):KB Pk [] t.all/\t.all.length<=t.a.es.length:=by
 obtain⟨n,hn⟩:=I.rt.1;obtain⟨h1,h2⟩:=I.all 25 _ _ _ hn;rw[I.rt.2]at h1 h2;refine⟨⟨h2,λk _=>kj,λk hk=>?_⟩,?_⟩;.obtain⟨e,he,rfl⟩:=bu.1 hk;obtain⟨_,s',g',n',a1,a2,a3⟩:=h1 e he;rw[a3];exact I.aJ _ _ _ a1 a2
 .have:=yz (t.all.map Prod.fst) (t.a.es.map λe=>pa e.ao++e.x.pre) (List.Pairwise.imp (S:=λa b=>a≠b) (λ{a b} xz e=>cw (by rw[e]at xz;exact xz)) (show(t.all.map Prod.fst).Pairwise (· < ·)from h2)) λx hx=>by obtain⟨e,he,rfl⟩:=bu.1 hx;obtain⟨_,s',g',n',a1,a2,a3⟩:=h1 e he;obtain⟨f,hf,f1,f2,f3⟩:=lG a1;exact bu.2 ⟨f,hf,by rw[f1,f3,a3]⟩
  simpa using this
theorem AW.vW{t:At}{p:bj}(o:AW t p h nx):t.a.es.length<=4096:=by
 have i1:=uv p.fr.length (t.a.es.map jE.ao) o.tk.ok.rK λx hx=>by obtain⟨e,he,rfl⟩:=bu.1 hx;exact(o.sp.taken e he).1
 have i2:=o.pk.small;rw[bc]at i1;omega
def ae':Nat->cU:=λid=>if id=6 then[(z4,[],some 5),([],[],none)]else[]
theorem alv(t:At)(p:bj)(h:aG)(nx:Nat)(o:AW t p h nx){Pk:ba->Prop}{pa:Nat->ba}{par:Nat->Nat}(I:AI Pk (cV t.a.es) t.aO pa par):
 aA prog 264 [.ptr t.tb 0] h nx (dr (ze t.all) h nx):=by
 have db:=o.tk.lt;have d1:¬(t.tb=nx):=ah;have d2:¬(t.tb=nx+1):=ah;have d3:¬(t.tb=nx+1+1):=ah;obtain⟨n,hn⟩:=I.rt.1;have kD:=I.zP.2;have alI:=o.vW;refine aA.pc 1 ae' func264 ?_;simp+decide-dsimp only[f264,go_sem];refine bm (aak t _ _ (o.tk.aX (λb hb=>?_) ?_)) ?_;.have:=o.tk.dm hb;rw[aj,ak ah,aj,ak ah]
 .omega
 have b1:¬(nx=nx+1+1):=ah;have b2:¬(nx=nx+1):=ah;simp+decide-dsimp only[go_sem,ae',o.tk.tr,d1,d2,d3,b1,b2];generalize hq:nx+1+1+1+Array.size _=nq;have rm:nx+3<=nq:=ah;clear hq;generalize hH:aK (aK (aK (aK h nx _) (nx+1) _) (nx+1+1) _) (nx+1+1) _=H;have H0:aH nx h H:=by
  rw[<-hH]
  repeat' first|exact aH.refl|apply aH.fJ|(apply aH.set;rotate_left;omega)
 have env:qo t nx H nq (.g (.slice none 0 0)) []:=by
  refine⟨o.tk.aX (λb hb=>H0 b (o.tk.dm hb)) ah,λb hb=>o.tk.dm hb,?_,?_,?_,.inl ⟨rfl,rfl⟩,.nil,rm⟩;.rw[<-hH,aj,ak b1,aj,ak b1,aj,ak b2,aj,aw rfl]
  .rw[<-hH,aj,aw rfl]
  .rw[<-hH,aj,ak ah,aj,ak ah,aj,aw rfl]
 clear hH;have c:=al0 t I nx 25 t.aO n hn ah [] _ H nq env (by rw[I.rt.2];show 0+t.all.length<=_;omega);rw[I.rt.2]at c;refine cf c λ_ h2 n2 l2 ⟨ev,l2',V,o2,K2⟩=>?_
 subst ev;simp+decide-dsimp only[go_sem,o2.b3];refine .of (λb hb=>?_) (o2.v.fz (nx:=nx) (hi:=n2) (o2.iv.le ah (an _)) EM);rw[K2.1 b ah ah (λe=>by cases e)];exact H0 b hb
theorem AI.new(Pk:ba->Prop)(x:Hd){k:KN}(hk:k.l=[]):AI Pk (up (λ_=>none) x.ao (x.bk,(⟨[],[],false,k⟩:Ax))) x (λ_=>[]) λ_=>0:=by
 have get:∀s g n,up (λ_=>none) x.ao (x.bk,(⟨[],[],false,k⟩:Ax)) s=some (g,n)->s=x.ao/\n=⟨[],[],false,k⟩:=by
  intro s g n h;by_cases e:s=x.ao;.rw[e,cO]at h;injection h with h;injection h with _ h;exact⟨e,h.symm⟩
  .rw[cH e]at h;cases h
 refine⟨λs g n h=>?_,λs g n h=>?_,λs g n h=>?_,λs g n h=>?_,⟨⟨_,cO⟩,rfl⟩⟩;.obtain⟨_,rfl⟩:=get s g n h;exact aY _
 .obtain⟨_,rfl⟩:=get s g n h;show fD k.l;rw[hk];exact List.Pairwise.nil
 .obtain⟨_,rfl⟩:=get s g n h;exact λh=>by cases h
 .obtain⟨_,rfl⟩:=get s g n h;intro e he;rw[show(Ax.k ⟨[],[],false,k⟩).l=[]from hk]at he;cases he
def ajX:Nat->cU:=λid=>if id=2 then[([0,1,2,3,10],[3],some 4),([5],[3,10],some 6),([7,8,9],[10],some 11),([],[],some 12),([],[],none)]else[]
theorem alh(p:bj)(h:aG)(nx:Nat)(sg:p.ok h nx)(hc:p.fr.count true≠0)(Pk:ba->Prop):
 aA prog 110 [.ptr p.pb 0] h nx λr h' nx'=>∃(t:At) (p':bj),r= .dN [.ptr t.tb 0,int 0]/\AW t p' h' nx'/\dA nx (λ_=>False) t.own (λ_=>False) t.a.sl p p' h h'/\p'.fr.count true+1=p.fr.count true/\LQ Pk t:=by
 have l1:=sg.rY;have l2:=sg.ss;have l3:=sg.sr;refine aA.ac 1 ajX func110 ?_;simp+decide-dsimp only[f110,go_sem];refine cf (aly h nx p.pb) λ_ h1 cm l1 ⟨ab,mb,g1,g2,g3,g4,g5,g6,g7,g8,g9⟩=>?_;subst g6;simp+decide-dsimp only[go_sem,ajX];have B0:AW ⟨cm,⟨ab,mb,0,p.pb,[]⟩,⟨0,0⟩,0⟩ p (aK h1 cm (.cells [.ptr p.pb 0,.ptr ab 0,int 0,u64 0,int 0,bQ false] 258)) (cm+1):=by
  refine⟨⟨by rw[aj,aw rfl];rfl,⟨by show au _ ab=_;rw[aj,ak ah];exact g7,by show au _ mb=_;rw[aj,ak ah];exact g8,(λe he=>by cases he),nY,nY,(λe he=>by cases he),g3,by show ab<_;omega,by show mb<_;omega⟩,by show cm≠ab;omega,by show cm≠mb;omega,(λe he=>by cases he),aW _,(λe he=>by cases he),(λe he=>by cases he),(λe he=>by cases he)⟩,
   sg.aX (λb hb=>by rw[aj,ak ah];exact g9 b hb) ah,⟨rfl,⟨by show ab≠_;omega,by show ab≠_;omega,by show ab≠_;omega⟩,⟨by show mb≠_;omega,by show mb≠_;omega,by show mb≠_;omega⟩,(λe he=>by cases he),(λe he=>by cases he)⟩,?_⟩
  rintro b (e|(e|e|⟨e,he,_⟩)|⟨e,he,_⟩);.have e:b=cm:=e;omega
  .have e:b=ab:=e;omega
  .have e:b=mb:=e;omega
  .cases he
  .cases he
 generalize hq:cm+1+Array.size _=nq;have rm:cm+1+12<=nq:=by rw[<-hq];exact eI bN _
 clear hq;generalize hG:aK h1 cm _=G0 at B0⊢;have G0k:∀b,b<cm->au G0 b=au h1 b:=λb hb=>by rw[<-hG,aj,ak ah]
 clear hG;generalize hH:aK G0 (cm+1+10) _=H;have Gl:aH (cm+1) G0 H:=by rw[<-hH];exact aH.refl.set ah
 have Nx:au H (cm+1+10)=some (.cells [int 0,u64 0] 245):=by rw[<-hH,aj,aw rfl]
 clear hH;refine cf (abZ H nq) λ_ h2 dU l2 ⟨k,e0,kl,kok,BJ,kown⟩=>?_
 subst e0;have o1:=B0.aX (Gl.trans (BJ.le (ah:cm+1<=nq)) (an _)) (ah:cm+1<=dU);have g10:au h2 (cm+1+10)=some (.cells [int 0,u64 0] 245):=by rw[BJ _ ah];exact Nx
 have g11:au h2 cm=some (.cells [.ptr p.pb 0,.ptr ab 0,int 0,u64 0,.g (.int .i64 0),bQ false] 258):=o1.tk.tr;simp+decide-dsimp only[go_sem,g10,g11];have PT:∀b,At.own ⟨cm,⟨ab,mb,0,p.pb,[]⟩,⟨0,0⟩,0⟩ b->nx<=b/\b<=cm:=by
  rintro b (e|(e|e|⟨e,he,_⟩)|⟨e,he,_⟩);.have e:b=cm:=e;omega
  .have e:b=ab:=e;omega
  .have e:b=mb:=e;omega
  .cases he
  .cases he
 refine cf (o1.alloc hc ⟨[],[],false,k⟩ kok (λb hb=>?_)) λ_ h3 nx3 l3 ⟨t3,p3,x,f1,f2,o3,E3,f3,S3,f4,f5⟩=>?_;.have:=kown b hb;exact⟨λe=>by have:=(PT b e).2;omega,ah,ah,ah⟩
 subst f2;have h5:∀b,nx<=b->(∀c,k.own c->b≠c)->cm<b->b<dU->au h3 b=au h2 b:=λb q1 q2 q3 q4=>by
  refine S3.aX b q4 (λe=>?_) ah ah ah;rcases e with e|e
  .have:=(PT b e).2;omega
  .exact q2 b e rfl
 have k10:au h3 (cm+1+10)=some (.cells [int 0,u64 0] 245):=by rw[h5 _ ah (λc wA e=>by have:=kown c wA;omega) ah ah];exact g10
 have k11:au h3 cm=some (.cells [.ptr t3.a.pb 0,.ptr t3.a.ab 0,int t3.aO.ao,u64 t3.aO.bk,.g (.int .i64 t3.size),bQ false] 258):=by have:=o3.tk.tr;rw[E3.tb]at this;exact this
 have mS:∀c,t3.own c->c≠cm+1+10:=λc hc e'=>by
  rcases S3.bl c hc with(q|q)|q;.have:=PT c q;omega
  .have:=kown c q;omega
  .omega
 have tP:∀c,t3.own c->nx<=c:=λc hc=>by
  rcases S3.bl c hc with(q|q)|q;.exact(PT c q).1
  .have:=kown c q;omega
  .omega
 have d1:¬(cm=cm+1+10):=ah;simp+decide-dsimp only[go_sem,k10,k11,d1,reduceAdd];generalize hG:aK h3 (cm+1+10) _=G;have G1:∀c,c≠cm+1+10->au G c=au h3 c:=λc hc=>by rw[<-hG,aj,ak hc]
 clear hG;have o4:AW t3 p3 G nx3:=⟨o3.tk.aX (λc hc=>G1 c (mS c hc)) (an _),o3.pk.iy (G1 _ (by rw[S3.pb];omega)) (G1 _ (by rw[S3.gb];omega)) (G1 _ (by rw[S3.fb];omega)) (an _),o3.sp,o3.sd⟩;obtain⟨o5,S5⟩:=o4.tree x t3.size;rw[E3.tb]at o5 S5;refine⟨_,p3,?_,o5,⟨S3.pb,S3.gb,S3.fb,S3.fl,λs hs=>?_,λb hb=>?_,λs hs=>?_,λb hb _ q1 q2 q3=>?_⟩,f5,⟨λ_=>[],λ_=>0,?_⟩⟩;.rfl
 .rcases S3.fr s hs with q|⟨e,he,_⟩;.exact .inl q
  .cases he
 .rcases hb with e|e|e;.have e:b=cm:=e;right;omega
  .exact .inr (tP b (.inr (.inl e)))
  .exact .inr (tP b (.inr (.inr e)))
 .rcases S3.slt s hs with⟨e,he,_⟩|q;.cases he
  .exact .inr q
 .rw[aj,ak ah,G1 b ah];rw[S3.aX b ah (λe=>?_) q1 q2 q3,BJ b ah,Gl b ah,G0k b ah,g9 b hb];rcases e with e|e
  .have:=(PT b e).1;omega
  .have:=kown b e;omega
 .show AI Pk (cV t3.a.es) x _ _;rw[f4];exact AI.new Pk x kl
variable{b n:Nat}{op:BinOp}{t:TypeId}{x y:Operand}
section
variable{P:Program}
theorem ud{k:IntKind}{m n:Int}{r:Int}(ho:op= .and\/op= .or\/op= .mul)(hr:br P (binOp op t (.int k m) (.int k n))=some (.int k r)):
 cZ P h op t x y (.g (.int k m)) (.g (.int k n))=some (.g (.int k r)):=by
 have hg:br P (do eqGuard op t x y (.int k m) (.int k n);binOp op t (.int k m) (.int k n))=some (.int k r):=by
  rcases ho with rfl|rfl|rfl
  all_goals
   unfold eqGuard;simp only[bX];exact hr
 have hs:iG P h op t x y (.g (.int k m)) (.g (.int k n))=some (.g (.int k r)):=by show ke P op t x y (.int k m) (.int k n)=_;unfold ke;rw[hg]
 unfold cZ;simp only[eD];rcases ho with rfl|rfl|rfl<;>exact hs
theorem zZ{a:Nat}(ha:a<2^64)(hb:b<2^64):cZ P h .and t x y (u64 a) (u64 b)=some (u64 (a&&&b:Nat)):=by refine ud (.inl rfl) ?_;show some (Value.int .u64 (IntKind.wrap .u64 ((BitVec.ofInt 64 a&&&BitVec.ofInt 64 b).toNat:Int)))=_;rw[<-gT,BitVec.toNat_and,BitVec.ofInt_natCast,BitVec.ofInt_natCast,BitVec.toNat_ofNat,BitVec.toNat_ofNat,lV ha,lV hb,lg ah];exact rj.2 (mu Nat.and_le_left ha)
theorem Fv{a:Nat}(ha:a<2^64)(hb:b<2^64):cZ P h .or t x y (u64 a) (u64 b)=some (u64 (a|||b:Nat)):=by refine ud (.inr (.inl rfl)) ?_;show some (Value.int .u64 (IntKind.wrap .u64 ((BitVec.ofInt 64 a|||BitVec.ofInt 64 b).toNat:Int)))=_;rw[<-gT,BitVec.toNat_or,BitVec.ofInt_natCast,BitVec.ofInt_natCast,BitVec.toNat_ofNat,BitVec.toNat_ofNat,lV ha,lV hb,lg ah];exact rj.2 (L5 ha hb)
theorem ad9{a:Nat}(ha:a<2^63)(hb:b<2^63):cZ P h .or t x y (int a) (int b)=some (int (a|||b:Nat)):=by refine ud (.inr (.inl rfl)) ?_;show some (Value.int .i64 (IntKind.wrap .i64 ((BitVec.ofInt 64 a|||BitVec.ofInt 64 b).toNat:Int)))=_;have:=L5 ha hb;rw[<-gT,BitVec.toNat_or,BitVec.ofInt_natCast,BitVec.ofInt_natCast,BitVec.toNat_ofNat,BitVec.toNat_ofNat,lV ah,lV ah,wrap_i64 ah ah]
theorem FA{a:Nat}(hb:a*b<2^63):cZ P h .mul t x y (int a) (int b)=some (int (a*b:Nat)):=by refine ud (.inr (.inr rfl)) ?_;show some (Value.int .i64 (IntKind.wrap .i64 ((a:Int)*(b:Int))))=_;rw[<-gT,<-Int.natCast_mul,wrap_i64 ah ah]
theorem Ac{k k':IntKind}{a:Nat}(hk:k.bits=64)(hn:n<=64)(hw:cF k ((a<<<n:Nat):Int)=((a<<<n:Nat):Int)):cZ P h .shl t x y (.g (.int k a)) (.g (.int k' n))=some (.g (.int k (a<<<n:Nat))):=by
 refine yb (.inr rfl) ah ?_;unfold Op.shift;rw[ak ah];show some (Value.int k (k.wrap ((a:Int)*(2^min (n:Int).toNat k.bits))))=_;rw[mZ,hk,bM hn,<-gT];have:((a:Int)*(2:Int)^n)=((a<<<n:Nat):Int):=by rw[zI];simp
 rw[this,hw]
end
section
variable{P:Program}
theorem ac9{a:Nat}(ha:a<18446744073709551616):cZ P h .and t x y (u64 a) (u64 15)=some (u64 (a%16:Nat)):=by have:=zZ (P:=P) (h:=h) (t:=t) (x:=x) (y:=y) (a:=a) (b:=15) ha bN;rw[show a&&&15=a%16 from PE a 4]at this;exact this
theorem afR{a:Nat}(ha:a<65536):cZ P h .mul t x y (int 4) (int a)=some (int (4*a:Nat)):=
 FA (a:=4) (b:=a) ah
end
theorem adW{n:Int}:nD prog h 71 3 (.g (.int .u64 n))=some (.g (.int .i64 (cF .i64 n))):=mO JY Da
theorem acy{n:Int}:nD prog h 3 71 (.g (.int .i64 n))=some (.g (.int .u64 (cF .u64 n))):=mO Da JY
attribute[go_sem] adW acy ac9 afR
theorem adP(i:Nat)(hi:i<60000):bo 186 [int i] (int (4*i+4:Nat)):=by
 refine bo.ac 1 T0 func186 λh nx=>?_;have h1:i<65536:=ah;have w1:cF .i64 (4+((4*i:Nat):Int))=((4*i+4:Nat):Int):=by rw[show(4+((4*i:Nat):Int))=((4*i+4:Nat):Int)from ah];exact wrap_i64 ah ah
 simp+decide-dsimp only[f186,go_sem,h1,w1];exact .dT .refl .cA rfl
theorem HI(w:Nat)(hw:w<18446744073709551616):bo 352 [u64 w] (int (w%16:Nat)):=by refine bo.ac 1 T0 func352 λh nx=>?_;have h1:w%16<9223372036854775808:=ah;simp+decide-dsimp only[f352,go_sem,hw,h1];exact .dT .refl .cA rfl
theorem Dc(w i:Nat)(hw:w<18446744073709551616)(hi:i<15):bo 340 [u64 w,int i] (int ((w>>>(4*i+4))%16:Nat)):=by
 refine bo.ac 2 T0 func340 λh nx=>?_;have h1:(w>>>(4*i+4))%16<9223372036854775808:=ah;have h2:w>>>(4*i+4)<18446744073709551616:=by rw[pj];exact mu (Nat.div_le_self _ _) hw
 have h3:¬((i:Int)<0):=ah;have h4:¬((15:Int)<=(i:Int)):=ah;have h5:4*i+4<=64:=ah;simp+decide-dsimp only[f340,go_sem,h3,h4];refine aZ (adP i ah) ?_;simp+decide-dsimp only[go_sem,h1,h2,h5,F5];exact .dT .refl .cA rfl
variable{l:List Nat}
def dg:List Nat->Nat
 |[]=>0
 |d::l=>d+16*dg l
def pw(n:Nat)(l:List Nat):Nat:=n+16*dg l
abbrev rV(l:List Nat):Prop:=l.Perm (List.range 15)
theorem rV.len(p:rV l):l.length=15:=by have:=p.length_eq;simpa using this
theorem rV.lt(p:rV l){d:Nat}(h:d∈l):d<15:=by have:=p.mem_iff.1 h;simpa using this
theorem Qp:∀{l:List Nat},(∀d∈l,d<16)->dg l<16^l.length
 |[],_=>by simp[dg]
 |d::l,h=>by have h1:=Qp (l:=l) λe he=>h e (by simp[he]);have h2:=h d bL;simp only[dg,bD,jR];omega
theorem rV.GN(p:rV l)(hn:n<=15):pw n l<18446744073709551616:=by
 have:=Qp (l:=l) λd hd=>by have:=p.lt hd;omega
 rw[p.len]at this;unfold pw;omega
theorem aaX:∀{l:List Nat} {i:Nat},(∀d∈l,d<16)->i<l.length->(dg l / 16^i)%16=l.getD i 0
 |d::l,0,h,_=>by have h2:=h d bL;simp only[dg,Nat.pow_zero,Nat.div_one,List.getD_cons_zero];omega
 |d::l,i+1,h,hi=>by
  have h2:=h d bL;have:=aaX (l:=l) (i:=i) (λe he=>h e (by simp[he])) (by simpa using hi);rw[List.getD_cons_succ,<-this,jR,qV (16^i),<-Ay];have:dg (d::l) / 16=dg l:=by simp only[dg];omega
  rw[this]
theorem rV.at(p:rV l)(hn:n<=15)(hi:i<15):(pw n l>>>(4*i+4))%16=l.getD i 0:=by rw[pj,Nat.pow_add,qV,<-Ay,Ed,show(2:Nat)^4=16 from rfl,show pw n l / 16=dg l by unfold pw;omega];exact aaX (λd hd=>by have:=p.lt hd;omega) (by rw[p.len];exact hi)
theorem rV.HI{l:List Nat}(p:rV l){n:Nat}(hn:n<=15):bo 352 [u64 (pw n l)] (int n):=by have:=bC.HI (pw n l) (p.GN hn);rw[show pw n l%16=n by unfold pw;omega]at this;exact this
theorem rV.Dc{l:List Nat}(p:rV l){n i:Nat}(hn:n<=15)(hi:i<15):bo 340 [u64 (pw n l),int i] (int (l.getD i 0:Nat)):=by have:=bC.Dc (pw n l) i (p.GN hn) hi;rw[p.at hn hi]at this;exact this
theorem rV.mo(p:rV l)(i:Nat):l.getD i 0<15:=by
 by_cases h:i<l.length;.rw[az,aF h];exact p.lt (bS h)
 .rw[az,dR ah];decide
def seen(l:List Nat):Nat:=l.foldl (λa d=>a|||1<<<d) 0
theorem Yk(h:∀d∈l,d<15):seen l<32768:=by
 have:∀(l:List Nat) (a:Nat),(∀d∈l,d<15)->a<2^15->l.foldl (λa d=>a|||1<<<d) a<2^15:=by
  intro l
  induction l with
  |nil=>intro a _ h;exact h
  |cons d l ih=>intro a h ha;have hd:=h d bL;refine ih _ (λe he=>h e (by simp[he])) (L5 ha ?_);rw[Nat.one_shiftLeft];exact Nat.pow_lt_pow_right bN hd
 exact this l 0 h bN
theorem Qd(p:rV l):seen l=32767:=by have:seen l=seen (List.range 15):=List.Perm.foldl_eq' p (λa _ b _ c=>by rw[Nat.or_assoc,Nat.or_comm (1<<<a),<-Nat.or_assoc]) 0;rw[this];decide
theorem MS(h:i<l.length):seen (l.take (i+1))=seen (l.take i)|||1<<<l.getD i 0:=by unfold seen;rw[vK,List.foldl_append,az,aF h];rfl
theorem rV.Ze(p:rV l)(hn:n<=15):bo 353 [u64 (pw n l)] (bQ true):=by
 refine bo.ac 1 T0 func353 λh nx=>?_;simp+decide-dsimp only[f353,go_sem];refine cL _ _ (λm s h' nx'=>∃i,i<=15/\m=15-i/\ao s 0=u64 (pw n l)/\ao s 3=int (seen (l.take i))/\ao s 5=int i/\h'=h/\nx'=nx) (n:=15) ?_ ?_;.simp+decide-dsimp only[go_sem];exact⟨0,ah,ah,rfl,rfl⟩
 rintro m s h' nx' ⟨i,hi,rfl,s0,s3,s5,rfl,rfl⟩;by_cases db:i<15
 .have c0:((i:Int)<15):=ah;have w1:i+1<9223372036854775808:=ah;simp+decide-dsimp only[go_sem,s0,s3,s5,c0];refine aZ (p.Dc hn db) ?_;have hd:=p.mo i;have q0:1<<<l.getD i 0<32768:=by rw[Nat.one_shiftLeft];exact Nat.pow_lt_pow_right (a:=2) (n:=15) bN hd
  have q1:∀{h t x y},cZ prog h .shl t x y (int 1) (int (l.getD i 0:Nat))=some (int (1<<<l.getD i 0:Nat)):=λ{h t x y}=>Ac (a:=1) (n:=l.getD i 0) (k:= .i64) rfl ah (wrap_i64 (Int.le_trans bN (gZ _)) (Int.lt_trans (rj.2 q0) bN));have q2:seen (l.take i)<32768:=Yk λd hd=>p.lt (ef hd);have q3:∀{h t x y},cZ prog h .or t x y (int (seen (l.take i))) (int (1<<<l.getD i 0:Nat))=some (int (seen (l.take (i+1)):Nat)):=λ{h t x y}=>by rw[ad9 ah ah,MS (by rw[p.len];exact db)]
  simp+decide-dsimp only[go_sem,s0,s3,s5,q1,q3,w1];exact⟨_,(ah:15-(i+1)<_),i+1,db,rfl,rfl,rfl⟩
 .have e:i=15:=ah;subst e;have hs:=Qd p;rw[aD (by rw[p.len];exact an _),hs]at s3;have c1:((n:Int)<=15):=ah;simp+decide-dsimp only[go_sem,s0,s3,s5];refine aZ (p.HI hn) ?_;simp+decide-dsimp only[go_sem,c1];exact .dT .refl .cA rfl
variable{c1 c2 o2:Nat}
theorem ah7:yg prog 499=some true:=aL
theorem afl:cN prog 499=some 15:=aL
theorem R9:prog.underlying 499=some (.array 15 3):=aL
theorem afX:dy prog 499=some (List.replicate 15 (.int .i64 0)):=aL
abbrev ints(l:List Nat):List AV:=l.map λn:Nat=>(int (n:Int))
theorem ints_at(h:i<l.length):(ints l)[i]?=some (int (l.getD i 0)):=by simp[List.getD,h]
theorem Tn(h:i<l.length):iW i (ints l)=some (int (l.getD i 0)):=by rw[kr];exact ints_at h
theorem G'{v:AV}(h:i<A.length):dJ i A [v]=some (A.set i v):=by have:=Gy (A:=A) (B:=[]) (v:=v) h;simpa using this
theorem Hr(h:i<l.length):dJ i (ints l) [int n]=some (ints (l.set i n)):=by rw[G' (by simpa using h),ints,ints,oE]
theorem Ia:∀(l:List Nat),AV.CX (ints l)=some (l.map λn:Nat=>Value.int .i64 (n:Int))
 |[]=>rfl
 |d::l=>by have:=Ia l;show(match AV.CX (ints l)with|some l=>some (_::l)|none=>none)=_;rw[this];rfl
theorem JW(hl:l.length=15)(hi:i<15):rH prog 499 (.agg (ints l)) (int i)=some (.val (int (l.getD i 0))):=by
 have:AV.pd (.agg (ints l))=some (.agg (l.map λn:Nat=>Value.int .i64 (n:Int)).toArray):=by show(match AV.CX (ints l)with|some l=>some (Value.agg l.toArray)|none=>none)=_;rw[Ia]
 unfold rH;rw[this];have q:br prog (Instr.index 499 (.agg (l.map λn:Nat=>Value.int .i64 (n:Int)).toArray) (.int .i64 i))=some (.int .i64 (l.getD i 0:Nat)):=by
  unfold Instr.index;simp only[asIntOf,bX,cG,gI R9];rw[aw ah];unfold part;simp only[bX,show br prog (isAgg 3)=some false from aL,show br prog (sizeOf 3)=some 1 from aL];have:(l.map λn:Nat=>Value.int .i64 (n:Int)).toArray[(i:Int).toNat*1]?=some (.int .i64 (l.getD i 0:Nat)):=by rw[mZ,cJ,List.getElem?_toArray,ff,az,aF ah];rfl
  rw[this];rfl
 simp only[AV.pd];rw[q]
def mv(l:List Nat)(f t:Nat):List Nat:=(l.eraseIdx f).take t++l.getD f 0::(l.eraseIdx f).drop t
theorem Ge(ln:l.length=15)(h:i<15):(l.take i++List.replicate (15-i) 0).set i (l.getD i 0)=l.take (i+1)++List.replicate (15-(i+1)) 0:=by rw[mW _ _ fE,ax,show i-min i l.length=0 from ah,show 15-i=(15-(i+1))+1 from ah,pB,IB,vK,az,aF ah,ay];rfl
theorem aff{off:Nat}{lo hi:Option AV}:eS prog 499 (.ptr b off) lo hi=sv 1 b off 15 15 lo hi:=by unfold eS;simp only[R9,ts3]
theorem agt{s x:AV}:qK prog h #[142,142] s x=Vl h 1 (pI s) (dV h 1 x) s:=by
 unfold qK Vl;simp only[aaY,ts3];cases pI s with
 |none=>rfl
 |some dn=>cases dV h 1 x<;>rfl
theorem Dg{o1 l1 l2:Nat}{A:List Nat}(hA:au h nx=some (.cells (ints A) 499))(hn:Nat.min l2 l1=n)(h1:o1+n<=A.length)(h2:o2+l2<=A.length):
 ∃H1,(∀b,b≠nx->au H1 b=au h b)/\au H1 nx=some (.cells (ints (A.take o1++(A.drop o2).take n++A.drop (o1+n))) 499)/\qK prog h #[142,142] (.sl nx o1 l1 c1) (.sl nx o2 l2 c2)=some (.val (int n) H1):=by
 have e1:qK prog h #[142,142] (.sl nx o1 l1 c1) (.sl nx o2 l2 c2)=tQ h 1 n (ints ((A.drop o2).take l2)) (.sl nx o1 l1 c1):=by rw[agt,GS,yy,cr,hA,cB,eF _ _ fE,aS,bO _ _ fE,dC,HK,hn,cJ,ints,ints,sY,xO]
 by_cases h0:n=0;.subst h0;exact⟨h,λ_ _=>rfl,by rw[hA,dv,cD,dD,bY],by rw[e1];rfl⟩
 .have hm:n<=l2:=by rw[<-hn];exact UC _ _
  refine⟨aK h nx (.cells (ints (A.take o1++(A.drop o2).take n++A.drop (o1+n))) 499),λb hb=>by rw[aj,ak hb],gl,?_⟩;rw[e1,DY (by simpa using h0),cJ,bO _ _ fE,G4 (by rw[eY];intro x hx;obtain⟨y,_,rfl⟩:=bu.1 (ef hx);rfl),xN,hA,vo,cp _ _ _ fE];simp only[dC,ints,<-sY,<-xO,<-dB,bc,ax,aC,bf,bM hm];rw[show min n (A.length-o2)=n from ah]
attribute[go_sem] ah7 afl R9 afX aff
theorem aaN{f:Nat}(ln:l.length=15)(hf:f<15):l.take (f*1)++(l.drop (if 15=f+1 then 0 else(f+1)*1)).take (14-f)++l.drop (f*1+(14-f))=l.eraseIdx f++[l.getD 14 0]:=by
 have e14:l.drop 14=[l.getD 14 0]:=by rw[da ah,aT ah,az,aF ah];rfl
 rw[cJ,show f+(14-f)=14 from ah,e14,iZ];by_cases h:15=f+1;.rw[aw h,show 14-f=0 from ah,dv,cD,aT (i:=f+1) ah,cD]
 .rw[ak h,cJ,aD (l:=l.drop (f+1)) (by rw[aC];omega)]
theorem Yy{E:List Nat}{t x y:Nat}(le:E.length=14)(ht:t<15):
 ((E++[y]).take (if 15=t+1 then 0 else(t+1)*1)++((E++[y]).drop (t*1)).take (14-t)++(E++[y]).drop ((if 15=t+1 then 0 else(t+1)*1)+(14-t))).length=15/\
 ((E++[y]).take (if 15=t+1 then 0 else(t+1)*1)++((E++[y]).drop (t*1)).take (14-t)++(E++[y]).drop ((if 15=t+1 then 0 else(t+1)*1)+(14-t))).set t x=E.take t++x::E.drop t:=by
 by_cases h:15=t+1;.have e:t=14:=ah;subst e;rw[aw rfl,dv,ch,show 14-14=0 from rfl,dv,ch,j9];refine⟨by simp[le],?_⟩;rw[mW _ _ ah,aD ah,aT ah,le];rfl
 .have e1:(E++[y]).take (t+1)=E.take (t+1):=aB ah;have e2:((E++[y]).drop t).take (14-t)=E.drop t:=by rw[cg ah,aB (by rw[aC];omega),aD (by rw[aC];omega)]
  have e3:(E++[y]).drop (t+1+(14-t))=[]:=aT fE;rw[ak h,cJ,cJ,e1,e2,e3,cD];refine⟨fE,?_⟩;rw[vK,aF ah,ay,mW _ _ fE,ax,show t-min t E.length=0 from ah];rfl
theorem rV.Bn(p:rV l){f t:Nat}(hf:f<15):rV (mv l f t):=by
 have mj:f<l.length:=by rw[p.len];exact hf
 have h1:(mv l f t).Perm (l.getD f 0::l.eraseIdx f):=by have:=List.perm_middle (a:=l.getD f 0) (l₁:=(l.eraseIdx f).take t) (l₂:=(l.eraseIdx f).drop t);rw[bY]at this;exact this
 have h2:(l[f]::l.eraseIdx f).Perm l:=by rw[iZ];have:=(List.perm_middle (a:=l[f]) (l₁:=l.take f) (l₂:=l.drop (f+1))).symm;rw[<-da mj,bY]at this;exact this
 rw[az,aF mj]at h1;exact(h1.trans h2).trans p
theorem rV.RL(p:rV l)(hi:i<15):l.getD i 0<<<(4*i+4)<18446744073709551616:=by
 have:=p.mo i;rw[zI];have h1:2^(4*i+4)<=2^60:=DN bN ah
 calc _<16*2^(4*i+4):=Nat.mul_lt_mul_of_pos_right ah (Nat.pow_pos bN)
  _<=16*2^60:=Gx _ h1
  _=_:=bN
theorem Bv(p:rV l)(hn:n<=15)(hi:i<=15):pw n (l.take i)<2^(4*i+4):=by
 have:=Qp (l:=l.take i) λd hd=>by have:=p.lt (ef hd);omega
 rw[ax,p.len,bM hi]at this;rw[show 4*i+4=4*(i+1)by omega,Ed,show(2:Nat)^4=16 from rfl,jR];unfold pw;omega
theorem rV.MC(p:rV l)(hn:n<=15)(hi:i<=15):pw n (l.take i)<18446744073709551616:=
 aP (Bv p hn hi) (DN bN (ah:4*i+4<=64))
theorem RB:∀(l m:List Nat),dg (l++m)=dg l+16^l.length*dg m
 |[],m=>by simp[dg]
 |d::l,m=>by have:=RB l m;simp only[jY,dg,bD,this,jR,Nat.mul_add];rw[qV (16^l.length) 16,xU];omega
theorem rV.LD(p:rV l)(hn:n<=15)(hi:i<15):pw n (l.take i)|||l.getD i 0<<<(4*i+4)=pw n (l.take (i+1)):=by
 have h1:=Bv p hn (dP hi);rw[Nat.or_comm,<-Qh h1,zI];unfold pw;have:l.take (i+1)=l.take i++[l.getD i 0]:=by rw[vK,az,aF (by rw[p.len];exact hi)];rfl
 rw[this,RB,ax,p.len,bM (dP hi),show 4*i+4=4*(i+1)by omega,Ed,show(2:Nat)^4=16 from rfl,jR];simp only[dg,Mm,dD,Nat.mul_add];rw[qV (l.getD i 0),qV (16^i) 16,xU];omega
def ack:Nat->cU:=λid=>if id=8 then[(z4,[],some 5),([],[],none)]else if id=9 then[(z4,[],some 5),([],[],none)]else[]
theorem rV.ai4(p:rV l){f t:Nat}(hn:n<=15)(hf:f<15)(ht:t<15):bo 354 [u64 (pw n l),int f,int t] (u64 (pw n (mv l f t))):=by
 refine bo.ac 3 ack func354 λh nx=>?_;simp+decide-dsimp only[f354,go_sem];have hz:List.map AV.g (List.replicate 15 (Value.int .i64 0))=ints (l.take 0++List.replicate (15-0) 0):=rfl;rw[hz];refine cL _ _ (λm s h' nx'=>∃i,i<=15/\m=15-i/\ao s 0=u64 (pw n l)/\ao s 1=int f/\ao s 2=int t/\ao s 7= .ptr nx 0/\ao s 13=int i/\(aH nx h h'/\au h' nx=some (.cells (ints (l.take i++List.replicate (15-i) 0)) 499))/\nx+1<=nx') (n:=15) ?_ ?_;.simp+decide-dsimp only[go_sem];exact⟨0,ah,ah,rfl,⟨aH.refl.set (an _),rfl⟩⟩
 rintro m s h' nx' ⟨i,hi,rfl,s0,s1,s2,s7,Ez,⟨S0,g0⟩,l1⟩;have ln:=p.len;by_cases db:i<15
 .have c0:((i:Int)<15):=ah;have w1:i+1<9223372036854775808:=ah;simp+decide-dsimp only[go_sem,s0,Ez,c0];refine aZ (p.Dc hn db) ?_;have q:dJ (i*1) (ints (l.take i++List.replicate (15-i) 0)) [int (l.getD i 0:Nat)]=some (ints (l.take (i+1)++List.replicate (15-(i+1)) 0)):=by rw[cJ,Hr fE,Ge ln db]
  simp+decide-dsimp only[go_sem,s0,s1,s2,s7,Ez,w1,db,g0,q];exact⟨_,(ah:15-(i+1)<_),i+1,db,rfl,rfl,⟨S0.set (an _),rfl⟩,l1⟩
 .have e:i=15:=ah;subst e;rw[aD ah,show 15-15=0 from rfl,Gs,cD]at g0;have q:iW (f*1) (ints l)=some (int (l.getD f 0:Nat)):=by rw[cJ];exact Tn ah
  have wv:f<=15:=ah;have htl:t<=14:=ah;have alT:f+1<=15:=ah;have f15:¬(15=f):=ah;have w1:f+1<9223372036854775808:=ah;have am0:t+1<=15:=ah;simp+decide-dsimp only[go_sem,ack,s1,s7,Ez,g0,q,hf,wv,alT,f15,w1];obtain⟨H1,k1,k2,k3⟩:=Dg (h:=h') (nx:=nx) (o1:=f*1) (l1:=15-f) (c1:=15-f) (o2:=if 15=f+1 then 0 else(f+1)*1) (l2:=15-(f+1)) (c2:=15-(f+1)) (n:=14-f) g0 (by show min _ _=_;omega) ah (by split<;>omega);have k2:au H1 nx=some (.cells (ints (l.eraseIdx f++[l.getD 14 0])) 499):=by rw[k2,aaN ln hf]
  have c15:¬(15=t):=ah;have w2:t+1<9223372036854775808:=ah;have agc:sv 1 nx 0 15 15 (some (int (t:Nat))) (some (int 14))=some (.sl nx (0+t*1) (14-t) (15-t)):=by have:=Lv (sz:=1) (b:=nx) (off:=0) (len:=15) (cap:=15) htl (ah:14<=15);rw[ak c15]at this;exact this
  rw[fx]at agc;simp+decide-dsimp only[go_sem,ack,s2,s7,k3,am0,w2,agc];have le:=iQ (l:=l) (i:=f) ah;obtain⟨H2,j1,j2,j3⟩:=Dg (h:=H1) (nx:=nx) (o1:=if 15=t+1 then 0 else(t+1)*1) (l1:=15-(t+1)) (c1:=15-(t+1)) (o2:=t*1) (l2:=14-t) (c2:=15-t) (n:=14-t) k2 (by show min _ _=_;omega) (by simp only[aq,gG];split<;>omega) (by simp only[aq,gG];omega);generalize hA:List.take (if 15=t+1 then 0 else(t+1)*1) _++_++_=A2 at j2;have hA2:A2.length=15/\A2.set t (l.getD f 0)=mv l f t:=by rw[<-hA];exact Yy (le.trans ah) ht
  have q5:dJ (t*1) (ints A2) [int (l.getD f 0:Nat)]=some (ints (mv l f t)):=by rw[cJ,Hr ah,hA2.2]
  have ml:(mv l f t).length=15:=by rw[<-hA2.2];simp[hA2.1]
  have pm:rV (mv l f t):=p.Bn hf;have q6:de 15 (ints (mv l f t))=some (ints (mv l f t)):=by rw[bO _ _ (by simp[ml]),aD (by simp[ml])]
  have q7:=p.GN hn;have q8:pw n l%16=n:=by unfold pw;omega
  simp+decide-dsimp only[go_sem,s0,s2,s7,j3,j2,q5,q6,q7,q8,ht];generalize hq:nx'+Array.size _+Array.size _=nq;have rm:nx'<=nq:=ah;clear hq;generalize hH:aK H2 nx _=H3;have S3:aH nx h H3:=λb hb=>by rw[<-hH,aj,ak ah,j1 b ah,k1 b ah,S0 b hb]
  clear hH;refine cL _ _ (λm s h' nx'=>∃i,i<=15/\m=15-i/\ao s 10=u64 (pw n ((mv l f t).take i))/\ao s 42= .agg (ints (mv l f t))/\ao s 43=int i/\h'=H3/\nq<=nx') (n:=15) ?_ ?_;.simp+decide-dsimp only[go_sem];exact⟨0,ah,ah,by rw[dv];rfl,rfl⟩
  rintro m s h' nx' ⟨i,hi,rfl,vE,s42,s43,rfl,l2⟩;by_cases db:i<15
  .have c0:((i:Int)<15):=ah;have w1:i+1<9223372036854775808:=ah;have q9:=JW ml db;have hd:=pm.mo i;have w3:(mv l f t).getD i 0<9223372036854775808:=ah;simp+decide-dsimp only[go_sem,vE,s42,s43,c0,q9,w3];refine aZ (adP i ah) ?_;have b1:=pm.RL (i:=i) db;have q10:∀{h t' x y},cZ prog h .shl t' x y (u64 ((mv l f t).getD i 0:Nat)) (int (4*i+4:Nat))=some (u64 ((mv l f t).getD i 0<<<(4*i+4):Nat)):=λ{h t' x y}=>Ac rfl ah (lg (gZ _) (rj.2 b1));have q11:∀{h t' x y},cZ prog h .or t' x y (u64 (pw n ((mv l f t).take i))) (u64 ((mv l f t).getD i 0<<<(4*i+4):Nat))=some (u64 (pw n ((mv l f t).take (i+1)):Nat)):=λ{h t' x y}=>by rw[Fv (pm.MC hn (dP db)) b1,pm.LD hn db]
   simp+decide-dsimp only[go_sem,vE,s42,s43,q10,q11,w1];exact⟨_,(ah:15-(i+1)<_),i+1,db,rfl,rfl,rfl,l2⟩
  .have e:i=15:=ah;subst e;rw[aD ah]at vE;simp+decide-dsimp only[go_sem,vE,s43];exact .dT S3 .cA rfl
def UJ:List Nat:=List.range 15
theorem yh:rV UJ:= .refl _
theorem Sa(h:i<15):UJ.getD i 0=i:=by unfold UJ;rw[az,Gh h];rfl
theorem aks:bo 170 [] (u64 (pw 0 UJ)):=by
 refine bo.ac 0 T0 func170 λh nx=>?_;simp+decide-dsimp only[f170,go_sem];refine cL _ _ (λm s h' nx'=>∃i,i<=15/\m=15-i/\ao s 1=u64 (pw 0 (UJ.take i))/\ao s 3=int i/\h'=h/\nx<=nx') (n:=15) ?_ ?_;.simp+decide-dsimp only[go_sem];exact⟨0,ah,ah,by rw[dv];rfl,rfl⟩
 rintro m s h' nx' ⟨i,hi,rfl,s1,s3,rfl,l2⟩;by_cases db:i<15
 .have c0:((i:Int)<15):=ah;have w1:i+1<9223372036854775808:=ah;have w3:i<9223372036854775808:=ah;simp+decide-dsimp only[go_sem,s1,s3,c0,w3];refine aZ (adP i ah) ?_;have b1:=yh.RL (i:=i) db;rw[Sa db]at b1;have q10:∀{h t' x y},cZ prog h .shl t' x y (u64 (i:Nat)) (int (4*i+4:Nat))=some (u64 (i<<<(4*i+4):Nat)):=λ{h t' x y}=>Ac rfl ah (lg (gZ _) (rj.2 b1));have q11:∀{h t' x y},cZ prog h .or t' x y (u64 (pw 0 (UJ.take i))) (u64 (i<<<(4*i+4):Nat))=some (u64 (pw 0 (UJ.take (i+1)):Nat)):=λ{h t' x y}=>by rw[Fv (yh.MC ah (dP db)) b1];have:=yh.LD (n:=0) (i:=i) ah db;rw[Sa db]at this;rw[this]
  simp+decide-dsimp only[go_sem,s1,s3,q10,q11,w1];exact⟨_,(ah:15-(i+1)<_),i+1,db,rfl,rfl,rfl,l2⟩
 .have e:i=15:=ah;subst e;rw[aD (by rw[yh.len];omega)]at s1;simp+decide-dsimp only[go_sem,s1,s3];exact .dT .refl .cA rfl
theorem rV.acm(p:rV l)(hn:n<15)(hi:i<=n):bo 345 [u64 (pw n l),int i] (.dN [u64 (pw (n+1) (mv l n i)),int (l.getD n 0:Nat),bQ true]):=by
 refine bo.ac 2 T0 func345 λh nx=>?_;simp+decide-dsimp only[Tryz.f345,go_sem];refine aZ (p.HI ah) ?_;simp+decide-dsimp only[go_sem];refine aZ (p.Ze ah) ?_;have c1:¬((15:Int)<=n):=ah;have c2:¬((i:Int)<0):=ah;have c3:¬((n:Int)<(i:Int)):=ah;have c3':¬n<i:=ah;simp+decide-dsimp only[go_sem,c1,c2,c3];refine aZ (p.ai4 ah hn ah) ?_;have pm:=p.Bn (f:=n) (t:=i) hn;have b:=pm.GN (n:=n+1) ah;have w:cF .u64 (((pw n (mv l n i):Nat):Int)+1)=((pw (n+1) (mv l n i):Nat):Int):=by
  have:pw (n+1) (mv l n i)=pw n (mv l n i)+1:=by unfold pw;omega
  rw[this]at b⊢;exact lg ah ah
 simp+decide-dsimp only[go_sem,w];refine aZ (p.Dc ah hn) ?_;simp+decide-dsimp only[go_sem];exact .dT .refl (.lZ .cA .cA .cA) rfl
theorem rV.amL(p:rV l)(hn:n+1<=15)(hi:i<=n):bo 331 [u64 (pw (n+1) l),int i] (.dN [u64 (pw n (mv l i n)),int (l.getD i 0:Nat),bQ true]):=by
 refine bo.ac 2 T0 func331 λh nx=>?_;simp+decide-dsimp only[f331,go_sem];refine aZ (p.HI hn) ?_;simp+decide-dsimp only[go_sem];refine aZ (p.Ze hn) ?_;have c2:¬((i:Int)<0):=ah;have c3:¬(((n+1:Nat):Int)<=(i:Int)):=ah;have c3':¬n+1<=i:=ah;have w1:cF .i64 (((n+1:Nat):Int)-1)=((n:Nat):Int):=by rw[show((n+1:Nat):Int)-1=(n:Int)from ah];exact wrap_i64 ah ah
 simp+decide-dsimp only[go_sem,c2,c3,w1];refine aZ (p.ai4 hn ah ah) ?_;have pm:=p.Bn (f:=i) (t:=n) ah;have b:=pm.GN (n:=n+1) hn;have w:cF .u64 (((pw (n+1) (mv l i n):Nat):Int)-1)=((pw n (mv l i n):Nat):Int):=by
  have:pw (n+1) (mv l i n)=pw n (mv l i n)+1:=by unfold pw;omega
  rw[this]at b⊢;rw[show((pw n (mv l i n)+1:Nat):Int)-1=((pw n (mv l i n):Nat):Int)from ah];exact lg ah ah
 simp+decide-dsimp only[go_sem,w];refine aZ (p.Dc hn ah) ?_;simp+decide-dsimp only[go_sem];exact .dT .refl (.lZ .cA .cA .cA) rfl
variable{k:Nat}
def bv(s:ba):Nat->Nat
 |0=>0
 |k+1=>bv s k*256+(s.getD k 0).toNat
theorem Di(s:ba):∀k,bv s k<256^k
 |0=>by simp[bv]
 |k+1=>by have:=Di s k;have:=(s.getD k 0).toNat_lt;simp only[bv,jR];omega
theorem wO{s t:ba}:∀{k:Nat},(∀i,i<k->s.getD i 0=t.getD i 0)->bv s k=bv t k
 |0,_=>rfl
 |k+1,h=>by rw[bv,bv,wO (k:=k) λi hi=>h i ah,h k ah]
theorem Tq(s:ba)(k:Nat):∀j,bv s (k+j) / 256^j=bv s k
 |0=>bL
 |j+1=>by
  have h1:=Tq s k j;have h2:=(s.getD (k+j) 0).toNat_lt;have h3:bv s (k+(j+1)) / 256=bv s (k+j):=by rw[show k+(j+1)=(k+j)+1 from ah,bv];omega
  rw[jR,qV (256^j),<-Ay,h3,h1]
theorem agR(s:ba)(hk:k<8):(bv s 8>>>(8*(7-k)))%256=(s.getD k 0).toNat:=by have h1:=Tq s (k+1) (7-k);rw[show k+1+(7-k)=8 from ah]at h1;have h2:=(s.getD k 0).toNat_lt;rw[pj,Ed,show(2:Nat)^8=256 from rfl,h1,bv];omega
def cut(s:ba):ba:=if s.length<=8 then s else s.take 8++[0]
structure rW(m:ba):Prop where
 len:m.length<=9
 z:m.length=9->m.getD 8 0=0
theorem kM(s:ba):(cut s).length=min s.length 9:=by
 unfold cut;split;.omega
 .simp;omega
theorem DW(s:ba):rW (cut s):=by refine⟨by rw[kM];omega,λh=>?_⟩;rw[kM]at h;unfold cut;rw[ak ah,az,dh fE];simp[show min 8 s.length=8 from ah]
theorem RU{s:ba}(hk:k<8):(cut s).getD k 0=s.getD k 0:=by
 unfold cut;split;.rfl
 .rw[az,cj fE,eE,aw hk,az]
theorem PW(s:ba):bv (cut s) 8=bv s 8:=wO λ_ hi=>RU hi
theorem qC(s:ba):(cut s).take 8=s.take 8:=by
 unfold cut;split;.rfl
 .rw[aB fE,bf];simp
abbrev tF(m:ba):List AV:=[u64 (bv m 8:Nat),u8 (m.length:Nat)]
section
variable{P:Program}
theorem aeT{a:Nat}(ha:a<65536):cZ P h .quo t x y (int a) (int 8)=some (int (a / 8:Nat)):=by
 have hr:br P (binOp .quo t (.int .i64 a) (.int .i64 8))=some (.int .i64 (a / 8:Nat)):=by show some (Value.int .i64 (IntKind.wrap .i64 ((a:Int).tdiv 8)))=_;rw[show(a:Int).tdiv 8=((a / 8:Nat):Int)from rfl,<-gT,wrap_i64 ah ah]
 have hg:br P (do eqGuard .quo t x y (.int .i64 a) (.int .i64 8);binOp .quo t (.int .i64 a) (.int .i64 8))=some (.int .i64 (a / 8:Nat)):=by unfold eqGuard;simp only[bX];exact hr
 have hs:iG P h .quo t x y (.g (.int .i64 a)) (.g (.int .i64 8))=some (.g (.int .i64 (a / 8:Nat))):=by show ke P .quo t x y (.int .i64 a) (.int .i64 8)=_;unfold ke;rw[hg]
 unfold cZ;simp only[eD];exact hs
theorem afm{a:Nat}(ha:a<65536):cZ P h .mul t x y (int a) (int 8)=some (int (a*8:Nat)):=
 FA (a:=a) (b:=8) ah
theorem aeA{a:Nat}(ha:a<65536):cZ P h .mul t x y (int 8) (int a)=some (int (8*a:Nat)):=
 FA (a:=8) (b:=a) ah
end
theorem acp{n:Int}:nD prog h 5 71 (.g (.int .u8 n))=some (.g (.int .u64 (cF .u64 n))):=mO UX JY
theorem adM{n:Int}:nD prog h 71 5 (.g (.int .u64 n))=some (.g (.int .u8 (cF .u8 n))):=mO JY UX
attribute[go_sem] acp adM aeT afm aeA
theorem amq(s:ba)(i:Nat)(hs:s.length<60000)(hi:i<6000):bo 332 [bR s,int i] (.dN [u64 (bv (s.drop (8*i)) 8:Nat),int (min (s.drop (8*i)).length 9:Nat)]):=by
 refine bo.ac 2 T0 func332 λh nx=>?_;have c1:¬((i:Int)<0):=ah;have c2:s.length<65536:=ah;have c3:i<65536:=ah;by_cases hd:s.drop (8*i)=[]
 .have hl:s.length<=8*i:=by simpa using hd
  rw[hd];by_cases c4:s.length / 8<i;.have c4':((s.length / 8:Nat):Int)<(i:Int):=ah;simp+decide-dsimp only[f332,go_sem,c1,c2,c4'];exact .dT .refl (.jS .cA .cA) rfl
  .have c4':¬((s.length / 8:Nat):Int)<(i:Int):=ah;have c5:(s.length:Int)<=((i*8:Nat):Int):=ah;have c5':s.length<=i*8:=ah;simp+decide-dsimp only[f332,go_sem,c1,c2,c3,c4',c5];exact .dT .refl (.jS .cA .cA) rfl
 .have hl:8*i<s.length:=by
   rcases bg (8*i) s.length with h|h;.exact h
   .exact absurd (aT h) hd
  have c4:¬s.length / 8<i:=ah;have c4':¬((s.length / 8:Nat):Int)<(i:Int):=ah;have c5:¬(s.length:Int)<=((i*8:Nat):Int):=ah;have c5':¬s.length<=i*8:=ah;have c6:i*8<=s.length:=ah;simp+decide-dsimp only[f332,go_sem,c1,c2,c3,c4',c5,c6];have e0:s.drop (i*8)=s.drop (8*i):=by rw[qV]
  rw[e0];generalize ht:s.drop (8*i)=t;have tl:t.length<60000:=by rw[<-ht,aC];omega
  refine cL _ _ (λm s h' nx'=>∃k,k<=8/\m=8-k/\ao s 0=bR t/\ao s 4=u64 (bv t k:Nat)/\ao s 27=int k/\h'=h/\nx'=nx) (n:=8) ?_ ?_;.simp+decide-dsimp only[go_sem];exact⟨0,ah,ah,rfl,rfl⟩
  rintro m s h' nx' ⟨k,hk,rfl,s0,s4,Fs,rfl,rfl⟩;by_cases db:k<8
  .have c0:((k:Int)<8):=ah;have w1:k+1<9223372036854775808:=ah;have b0:=Di t k;have b1:(256:Nat)^k<=256^7:=DN bN ah;have b2:bv t k<<<8=bv t k*256:=zI _ _;have q1:∀{h t' x y},cZ prog h .shl t' x y (u64 (bv t k:Nat)) (u64 8)=some (u64 (bv t k*256:Nat)):=λ{h t' x y}=>by have:=Ac (P:=prog) (h:=h) (t:=t') (x:=x) (y:=y) (k:= .u64) (k':= .u64) (a:=bv t k) (n:=8) rfl bN (by rw[b2];exact lg ah ah);rw[b2]at this;exact this
   by_cases xT:k<t.length
   .have hkl':((k:Int)<(t.length:Int)):=ah;have hx:=(t.getD k 0).toNat_lt;have w3:cF .u64 (((t.getD k 0).toNat:Nat):Int)=((t.getD k 0).toNat:Nat):=lg ah ah;have q2:∀{h t' x y},cZ prog h .or t' x y (u64 (bv t k*256:Nat)) (u64 ((t.getD k 0).toNat:Nat))=some (u64 (bv t (k+1):Nat)):=λ{h t' x y}=>by rw[Fv ah ah];have:=Qh (a:=bv t k) (b:=(t.getD k 0).toNat) (i:=8) hx;rw[b2]at this;rw[<-this];rfl
    simp+decide-dsimp only[go_sem,s0,s4,Fs,c0,q1,q2,w3,xT,hkl',w1];exact⟨_,(ah:8-(k+1)<_),k+1,db,rfl,rfl,rfl⟩
   .have hkl':¬((k:Int)<(t.length:Int)):=ah;have e:bv t (k+1)=bv t k*256:=by rw[bv,az,dR ah];rfl
    simp+decide-dsimp only[go_sem,s0,s4,Fs,c0,q1,hkl',w1];exact⟨_,(ah:8-(k+1)<_),k+1,db,rfl,by rw[e],rfl⟩
  .have e:k=8:=ah;subst e;have hm:(if(9:Int)<(t.length:Int)then(9:Int)else(t.length:Int))=((min t.length 9:Nat):Int):=by split<;>omega
   simp+decide-dsimp only[go_sem,s0,s4,Fs,hm];exact .dT .refl (.jS .cA .cA) rfl
variable{j:Nat}
def pad(s:ba)(n:Nat):ba:=(List.range n).map λk=>s.getD k 0
theorem xn(s:ba):∀k,bv s (k+1)=(s.getD 0 0).toNat*256^k+bv (s.drop 1) k
 |0=>by simp[bv]
 |k+1=>by
  have e:(s.drop 1).getD k 0=s.getD (k+1) 0:=by rw[oz,mq]
  rw[bv,xn s k,bv,e,jR,bh,xU,jk]
theorem GB(s:ba)(k:Nat):pad s (k+1)=s.getD 0 0::pad (s.drop 1) k:=by
 unfold pad;rw[List.range_succ_eq_map,dQ,LK]
 congr 1
 refine pn λi _=>?_;show s.getD (i+1) 0=(s.drop 1).getD i 0;rw[oz,mq]
theorem Ra:∀(k:Nat) (m n:ba) (x y:UInt8),pad m k++[x]<pad n k++[y]↔bv m k<bv n k\/(bv m k=bv n k/\x<y)
 |0,m,n,x,y=>by show[x]<[y]↔_;rw[du];simp[bv]
 |k+1,m,n,x,y=>by
  have ih:=Ra k (m.drop 1) (n.drop 1) x y;have h1:=Di (m.drop 1) k;have h2:=Di (n.drop 1) k;rw[GB,GB,jY,jY,du,ih,xn m,xn n];generalize m.getD 0 0=a;generalize n.getD 0 0=b;generalize bv (m.drop 1) k=u at*;generalize bv (n.drop 1) k=v at*;generalize 256^k=P at*;rw[cW,<-eA];rcases cI a.toNat b.toNat with h|h|h
  .have:(a.toNat+1)*P<=b.toNat*P:=aI _ h;rw[bh]at this;constructor;.intro _;left;omega
   .intro _;exact .inl h
  .rw[h];constructor
   .rintro(h'|⟨_,h'|⟨jj,nU⟩⟩);.omega
    .left;omega
    .right;exact⟨ah,nU⟩
   .rintro(h'|⟨jj,nU⟩);.exact .inr ⟨rfl,.inl ah⟩
    .exact .inr ⟨rfl,.inr ⟨ah,nU⟩⟩
  .have:(b.toNat+1)*P<=a.toNat*P:=aI _ h;rw[bh]at this;constructor;.rintro(h'|⟨h',_⟩)<;>omega
   .rintro(h'|⟨h',_⟩)<;>omega
theorem Qj:∀(k:Nat) (m n:ba),m.length<=k+1->n.length<=k+1->(m.length=k+1->m.getD k 0=0)->(n.length=k+1->n.getD k 0=0)->(m<n↔bv m k<bv n k\/(bv m k=bv n k/\m.length<n.length))
 |0,m,n,hm,hn,zm,zn=>by
  have get:∀l:ba,l.length<=0+1->(l.length=0+1->l.getD 0 0=0)->l=[]\/l=[0]:=λl h z=>by
   match l,h,z with
   |[],_,_=>exact .inl rfl
   |[a],_,z=>exact .inr (by rw[show a=0 from by simpa using z rfl])
  rcases get m hm zm with rfl|rfl<;>rcases get n hn zn with rfl|rfl<;>simp[bv]
 |k+1,[],[],_,_,_,_=>bL
 |k+1,[],b::n,_,_,_,_=>by
  simp only[List.nil_lt_cons,true_iff,eB,bD];have:bv [] (k+1)=0:=by
   have:∀j,bv ([]:ba) j=0:=λj=>by
    induction j with
    |zero=>rfl
    |succ j ih=>rw[bv,ih];rfl
   exact this _
  omega
 |k+1,a::m,[],_,_,_,_=>by
  have:bv [] (k+1)=0:=by
   have:∀j,bv ([]:ba) j=0:=λj=>by
    induction j with
    |zero=>rfl
    |succ j ih=>rw[bv,ih];rfl
   exact this _
  simp[this]
 |k+1,a::m,b::n,hm,hn,zm,zn=>by
  have ih:=Qj k m n (by simpa using hm) (by simpa using hn) (λh=>by simpa using zm (by simp[h])) (λh=>by simpa using zn (by simp[h]));have h1:=Di m k;have h2:=Di n k;rw[du,ih,xn (a::m),xn (b::n)];show a<b\/a=b/\_↔a.toNat*256^k+bv m k<b.toNat*256^k+bv n k\/_;rw[bD,bD];show a<b\/a=b/\_↔a.toNat*256^k+bv m k<b.toNat*256^k+bv n k\/(a.toNat*256^k+bv m k=b.toNat*256^k+bv n k/\_);generalize bv m k=u at*;generalize bv n k=v at*;generalize 256^k=P at*;rw[cW,<-eA];rcases cI a.toNat b.toNat with h|h|h
  .have:(a.toNat+1)*P<=b.toNat*P:=aI _ h;rw[bh]at this;constructor;.intro _;left;omega
   .intro _;exact .inl h
  .rw[h];constructor
   .rintro(h'|⟨_,h'|⟨jj,nU⟩⟩);.omega
    .left;omega
    .right;exact⟨ah,ah⟩
   .rintro(h'|⟨jj,nU⟩);.exact .inr ⟨rfl,.inl ah⟩
    .exact .inr ⟨rfl,.inr ⟨ah,ah⟩⟩
  .have:(b.toNat+1)*P<=a.toNat*P:=aI _ h;rw[bh]at this;constructor;.rintro(h'|⟨h',_⟩)<;>omega
   .rintro(h'|⟨h',_⟩)<;>omega
theorem rW.lt{m n:ba}(hm:rW m)(hn:rW n):m<n↔bv m 8<bv n 8\/(bv m 8=bv n 8/\m.length<n.length):=
 Qj 8 m n hm.len hn.len hm.z hn.z
theorem rW.inj{m n:ba}(hm:rW m)(hn:rW n)(h1:bv m 8=bv n 8)(h2:m.length=n.length):m=n:=by
 rcases jD m n with h|h|h;.rcases(hm.lt hn).1 h with h|h<;>omega
 .exact h
 .rcases(hn.lt hm).1 h with h|h<;>omega
def pP(m:ba):ba:=pad m 8++[UInt8.ofNat m.length]
theorem ED{m n:ba}(hm:rW m)(hn:rW n):pP m<pP n↔m<n:=by have h1:=hm.len;have h2:=hn.len;rw[hm.lt hn,pP,pP,Ra,cW,fF (by show _<256;omega),fF (by show _<256;omega)]
theorem aaS{m:ba}(h:m.length<=k):bv m (k+j)=bv m k*256^j:=by
 induction j with
 |zero=>simp
 |succ j ih=>rw[<-jk,bv,ih,az,dR ah,jR,<-xU];rfl
theorem Qg(m:ba):pad m (min m.length 8)=m.take 8:=by
 apply nM;intro i;unfold pad;by_cases h:i<min m.length 8;.rw[ff,Gh h,eE,aw ah,aF ah];simp[aF (show i<m.length from ah)]
 .rw[dR fE,dR fE]
abbrev PL(l:ba):List AV:=l.map λb:UInt8=>(u8 (b.toNat:Nat))
theorem AU:∀(l:ba),nG (PL l)=some l
 |[]=>rfl
 |b::l=>by have:=AU l;show(match nG (PL l)with|some r=>some (UInt8.ofNat ((b.toNat:Nat):Int).toNat::r)|none=>none)=_;rw[this,mZ,LA]
theorem LC:∀(n:Nat),fK n [u8 0]=PL (List.replicate n 0)
 |0=>rfl
 |n+1=>by rw[pB];show u8 0::fK n [u8 0]=_;rw[LC n];rfl
theorem akh(h:n<=65536):qp prog 46 (int n) (int n)=some (.pS (.cells (PL (List.replicate n 0)) 5) n n):=by unfold qp;rw[vP];show O7 prog 5 n n=_;unfold O7;rw[PC,tb5,Vt];show(if decide (n<=n)&&decide (n<=65536)&&true&&true then some (QR.pS (.cells (fK n [u8 0]) 5) n n)else none)=_;rw[aM (an n),aM h,LC];rfl
theorem Ni:cF .u8 (n:Int)=((n%256:Nat):Int):=by rw[gT];show(n:Int)%(2^8:Int)=_;omega
theorem xE(s:ba)(n:Nat):(pad s n).length=n:=by simp[pad]
theorem ael{s:ba}(h:k<n):(pad s n).getD k 0=s.getD k 0:=by unfold pad;rw[az,ff,Gh h];rfl
theorem C2{l:ba}(ln:l.length=n)(h:i<n):(l.take i++List.replicate (n-i) 0).set i (l.getD i 0)=l.take (i+1)++List.replicate (n-(i+1)) 0:=by rw[mW _ _ fE,ax,show i-min i l.length=0 from ah,show n-i=(n-(i+1))+1 from ah,pB,IB,vK,az,aF ah,ay];rfl
theorem aao{l:ba}{b:UInt8}(h:i<l.length):dJ i (PL l) [u8 (b.toNat:Nat)]=some (PL (l.set i b)):=by rw[G' (by simpa using h),PL,PL,oE]
theorem ahE(s:ba)(c:Nat)(hc:c<=9):bo 342 [u64 (bv s 8:Nat),int c] (bR (pad s (min c 8))):=by
 refine bo.ac 2 T0 func342 λh nx=>?_;by_cases h0:c<1;.have qP:(c:Int)<1:=ah;have e:c=0:=ah;subst e;simp+decide-dsimp only[f342,go_sem];exact .dT .refl .bR rfl
 .have qP:¬(c:Int)<1:=ah;have jj:¬(9:Int)<c:=ah;have hm:(if(8:Int)<(c:Int)then(8:Int)else(c:Int))=((min c 8:Nat):Int):=by split<;>omega
  simp+decide-dsimp only[f342,go_sem,qP,jj,hm];have hM:min c 8<=8:=ah;generalize min c 8=M at hM;have e0:(pad s M).take 0++List.replicate (M-0) 0=List.replicate M 0:=rfl;simp+decide-dsimp only[go_sem,akh (n:=M) ah];refine cL _ _ (λm s' h' nx'=>∃k,k<=M/\m=M-k/\ao s' 0=u64 (bv s 8:Nat)/\ao s' 5= .sl nx 0 M M/\ao s' 17=int M/\ao s' 18=int k/\(aH nx h h'/\au h' nx=some (.cells (PL ((pad s M).take k++List.replicate (M-k) 0)) 5))/\nx+1<=nx') (n:=M) ?_ ?_;.simp+decide-dsimp only[go_sem];exact⟨0,aY _,rfl,rfl,aH.refl.set (an _),by rw[e0]⟩
  rintro m s' h' nx' ⟨k,hk,rfl,s0,s5,s17,s18,⟨S0,g0⟩,l1⟩;by_cases db:k<M
  .have c0:((k:Int)<(M:Int)):=ah;have w1:k+1<9223372036854775808:=ah;have w2:cF .i64 (7-(k:Int))=((7-k:Nat):Int):=by rw[show(7-(k:Int))=((7-k:Nat):Int)from ah];exact wrap_i64 ah ah
   have w3:7-k<65536:=ah;have w4:8*(7-k)<=64:=ah;have w5:cF .u8 ((bv s 8>>>(8*(7-k)):Nat):Int)=((s.getD k 0).toNat:Nat):=by rw[Ni,agR s ah]
   have q:dJ (k*1) (PL ((pad s M).take k++List.replicate (M-k) 0)) [u8 ((s.getD k 0).toNat:Nat)]=some (PL ((pad s M).take (k+1)++List.replicate (M-(k+1)) 0)):=by have:=C2 (xE s M) db;rw[ael db]at this;rw[cJ,aao (by simp[xE];omega),this]
   simp+decide-dsimp only[go_sem,s0,s5,s17,s18,c0,db,w1,w2,w3,w4,w5,F5,g0,q];exact⟨_,(ah:M-(k+1)<_),k+1,db,rfl,rfl,⟨S0.set (an _),rfl⟩,l1⟩
  .have e:k=M:=ah;subst e;rw[aD (by rw[xE];omega),jM,Gs,cD]at g0;have q:cK h' nx 0 k=some (PL (pad s k)):=by rw[cr,g0,cB,fS,aS,bO _ _ (by simp[xE]),aD (by simp[xE])]
   simp+decide-dsimp only[go_sem,s5,s17,s18,q,AU,eG];exact .dT S0 .bR rfl
theorem PZ(s:ba)(i:Nat)(hs:s.length<60000)(hi:i<6000):bo 314 [bR s,int i] (.agg (tF (cut (s.drop (8*i))))):=by
 refine bo.ac 2 T0 func314 λh nx=>?_;have w:min (s.drop (8*i)).length 9<256:=ah;simp+decide-dsimp only[f314,go_sem];refine aZ (amq s i hs hi) ?_;simp+decide-dsimp only[go_sem,w,reduceAdd];refine .dT ?_ (.agg (.cons .cA (.cons .cA .nil))) ?_
 .repeat' first|exact aH.refl|apply aH.fJ|(apply aH.set;rotate_left;omega)
 .rw[tF,PW,kM]
def ajl:Nat->cU:=λid=>if id=1 then[([0,1,3,4,5,6],[1,4],some 2),([7],[4,5,6],some 8),([],[],none)]else[]
theorem YD(m:ba)(hm:m.length<=9):bo 336 [.agg (tF m)] (bR (pP m)):=by
 refine bo.ac 1 ajl func336 λh nx=>?_;have hl:m.length<256:=ah;have e1:((m.length:Nat):Int)=(((UInt8.ofNat m.length).toNat:Nat):Int):=by rw[fF hl]
 have q:nG [u8 (m.length:Nat)]=some [UInt8.ofNat m.length]:=by rw[e1];exact ah'
 simp+decide-dsimp only[f336,go_sem,ajl,cr,cB,q];have c:=ahE m 8 ah;rw[show((8:Nat):Int)=8 from rfl,show min 8 8=8 from rfl]at c;refine aZ c ?_;have q3:∀{h t x y},cZ prog h .add t x y (bR (pad m 8)) (bR [UInt8.ofNat m.length])=some (bR (pad m 8++[UInt8.ofNat m.length])):=λ{h t x y}=>jv (by simp[pad]);simp+decide-dsimp only[go_sem,cr,cB,q,q3];refine .dT ?_ .bR rfl
 repeat' first|exact aH.refl|apply aH.fJ|(apply aH.set;rotate_left;omega)
theorem aci(m n:ba)(hm:rW m)(hn:rW n):bo 339 [.agg (tF m),.agg (tF n)] (bQ (decide (m<n))):=by
 refine bo.ac 2 T0 func339 λh nx=>?_;have db:=hm.lt hn;have d0:∀q:Nat,¬(nx=nx+1):=ah;by_cases h1:bv m 8<bv n 8
 .have e:=db.2 (.inl h1);have jj:((bv m 8:Nat):Int)<(bv n 8:Nat):=ah;simp+decide-dsimp only[f339,go_sem,jj];refine .dT ?_ .cA (by rw[aM e])
  repeat' first|exact aH.refl|apply aH.fJ|(apply aH.set;rotate_left;omega)
 .have jj:¬((bv m 8:Nat):Int)<(bv n 8:Nat):=ah;by_cases h2:bv m 8=bv n 8
  .have nU:((bv m 8:Nat):Int)=(bv n 8:Nat):=ah;have vT:m<n↔m.length<n.length:=db.trans ⟨λh=>h.elim (λh=>absurd h h1) And.right,λh=> .inr ⟨h2,h⟩⟩;simp+decide-dsimp only[f339,go_sem,h2,eG];refine .dT ?_ .cA (by rw[eW.2 vT])
   repeat' first|exact aH.refl|apply aH.fJ|(apply aH.set;rotate_left;omega)
  .have nU:¬((bv m 8:Nat):Int)=(bv n 8:Nat):=ah;simp+decide-dsimp only[f339,go_sem,jj,nU];refine .dT ?_ .cA (by rw[aU λe=>by rcases db.1 e with e|⟨e,_⟩;exact h1 e;exact h2 e])
   repeat' first|exact aH.refl|apply aH.fJ|(apply aH.set;rotate_left;omega)
theorem ag5(m:ba)(hm:rW m):bo 355 [.agg (tF m)] (bQ true):=by
 refine bo.ac 1 T0 func355 λh nx=>?_;have hl:=hm.len;by_cases h8:8<=m.length;.have h8':(8:Int)<=(m.length:Int):=ah;have h9':(m.length:Int)<=9:=ah;simp+decide-dsimp only[f355,go_sem,h8',h9'];exact .of (aH.refl.set (an _)) .cA
 .have h8':¬(8:Int)<=(m.length:Int):=ah;have q1:∀{h t x y},cZ prog h .mul t x y (u8 8) (u8 (m.length:Nat))=some (u8 (8*m.length:Nat)):=λ{h t x y}=>by refine ud (.inr (.inr rfl)) ?_;show some (Value.int .u8 (IntKind.wrap .u8 ((8:Int)*(m.length:Int))))=_;rw[<-gT,show(8:Int)*(m.length:Int)=((8*m.length:Nat):Int)by omega,wrap_u8 ah ah]
  have q2:∀{h t x y},cZ prog h .shl t x y (u64 (bv m 8:Nat)) (u8 (8*m.length:Nat))=some (u64 0):=λ{h t x y}=>by
   refine yb (.inr rfl) ah ?_;unfold Op.shift;rw[ak ah];show some (Value.int .u64 (IntKind.wrap .u64 (((bv m 8:Nat):Int)*(2^min ((8*m.length:Nat):Int).toNat 64))))=_;have e:bv m 8*2^(8*m.length)=bv m m.length*18446744073709551616:=by have:=aaS (m:=m) (k:=m.length) (j:=8-m.length) (an _);rw[show m.length+(8-m.length)=8 from ah]at this;rw[this,Ed,show(2:Nat)^8=256 from rfl,xU,<-Nat.pow_add,show 8-m.length+m.length=8 from ah]
   rw[mZ,bM ah];have e2:((bv m 8:Nat):Int)*(2:Int)^(8*m.length)=((bv m m.length*18446744073709551616:Nat):Int):=by rw[<-e];simp
   rw[e2];show some (Value.int .u64 (((bv m m.length*18446744073709551616:Nat):Int)%18446744073709551616))=_;rw[show((bv m m.length*18446744073709551616:Nat):Int)%18446744073709551616=0 from ah]
  simp+decide-dsimp only[f355,go_sem,h8',q1,q2];exact .dT (aH.refl.set (an _)) .cA rfl
variable{n':Nat}{vs:List AV}
theorem mk_eq(a b c d:Int)(q:Nat):br prog (Op.equalIn (q+2) 264 (.agg #[.int .u64 a,.int .u8 b]) (.agg #[.int .u64 c,.int .u8 d]))=some (a==c&&b==d):=by
 rw[DF (q+1) 264 _ _ aL aL];rw[va,show((prog.fieldsOf 264).toList.map λf=>(f.type,f.offset,decide (f.name= "_")))=[(71,0,false),(5,1,false)]from aL,
  wV aL aL (FG q 71 .u64 .u64 a c JY),wV aL aL (FG q 5 .u8 .u8 b d UX)]
 cases a==c<;>cases b==d<;>rfl
theorem Z7{a b c d:Int}:cZ prog h .eql 264 x y (.agg [u64 a,u8 b]) (.agg [u64 c,u8 d])=some (bQ (a==c&&b==d)):=(Hi (u:=[_,_]) (v:=[_,_]) rfl rfl aL (mk_eq a b c d 9998)).1
theorem YM{m n:ba}(hm:rW m)(hn:rW n):((((bv m 8:Nat):Int)==((bv n 8:Nat):Int))&&(((m.length:Nat):Int)==((n.length:Nat):Int)))=decide (m=n):=by
 by_cases h:m=n;.subst h;simp
 .rw[aU h];by_cases h1:bv m 8=bv n 8;.have h2:m.length≠n.length:=λh2=>h (hm.inj hn h1 h2);simp;intro _;exact λh3=>h2 (Ib.1 h3)
  .simp;intro h3;exact absurd (Ib.1 h3) h1
theorem S8{m n:ba}(hm:rW m)(hn:rW n):cZ prog h .eql 264 x y (.agg (tF m)) (.agg (tF n))=some (bQ (decide (m=n))):=by rw[tF,tF,Z7,YM hm hn]
structure Sl where
 m:ba
 rest:ba
 val:ba
 deep:Bool
 link:Hd
abbrev Sl.cells(s:Sl):List AV:=[u64 (bv s.m 8:Nat),u8 (s.m.length:Nat),bR s.rest,bR s.val,bQ s.deep,int s.link.ao,u64 s.link.bk]
def zs:Sl:=⟨[],[],[],false,⟨0,0⟩⟩
structure Sl.R(s:Sl):Prop where
 m:rW s.m
 d:s.deep=true->s.m.length=9/\s.rest=[]/\s.val=[]
 n:s.deep=false->s.link=⟨0,0⟩/\(s.m.length=9↔s.rest≠[])
structure Lf where
 n:Nat
 ds:List Nat
 sl:List Sl
 cR:ba
 bd:Bool
 next:Hd
def Lf.cells(l:Lf):List AV:=u64 (pw l.n l.ds:Nat)::(l.sl.flatMap Sl.cells++[u64 (bv l.cR 8:Nat),u8 (l.cR.length:Nat),bQ l.bd,int l.next.ao,u64 l.next.bk])
abbrev Lf.av(l:Lf):AV:= .agg l.cells
theorem uV(l:List Sl):(l.flatMap Sl.cells).length=l.length*7:=by
 induction l with
 |nil=>rfl
 |cons a l ih=>rw[bG,aq,ih];show 7+l.length*7=(l.length+1)*7;omega
theorem Lc:∀(l:List Sl) (k:Nat) (B:List AV),k<=l.length->(l.flatMap Sl.cells++B).drop (k*7)=(l.drop k).flatMap Sl.cells++B
 |l,0,B,_=>bL
 |a::l,k+1,B,h=>by rw[bG,ay,mw,mq,iz,aT (i:=7+k*7) (l:=a.cells) (by show 7<=_;omega),ch];show(l.flatMap Sl.cells++B).drop (7+k*7-7)=_;rw[fR,Lc l k B (by simpa using h)];rfl
section
variable{l:Lf}(hl:l.sl.length=15)
include hl
theorem dW:l.cells.length=111:=by unfold Lf.cells;rw[bD,aq,uV,hl];rfl
theorem wM:l.cells.drop (106+k)=[u64 (bv l.cR 8:Nat),u8 (l.cR.length:Nat),bQ l.bd,int l.next.ao,u64 l.next.bk].drop k:=by unfold Lf.cells;rw[show 106+k=(105+k)+1 from ah,lN,iz,aT (by rw[uV,hl];omega),ch,uV,hl,show 105+k-15*7=k from ah]
theorem JR:iW 0 l.cells=some (u64 (pw l.n l.ds:Nat)):=bF rfl
theorem Fg:(ed 106 l.cells).bind (de 2)=some (tF l.cR):=by rw[eF _ _ (by rw[dW hl];omega),wM hl (k:=0)];rfl
theorem Mp:iW 108 l.cells=some (bQ l.bd):=by have:=wM hl (k:=2);rw[kr,<-List.head?_drop,this];rfl
theorem FQ:(ed 109 l.cells).bind (de 2)=some [int l.next.ao,u64 l.next.bk]:=by rw[eF _ _ (by rw[dW hl];omega),wM hl (k:=3)];rfl
theorem jU:de 111 l.cells=some l.cells:=by rw[bO _ _ (by rw[dW hl];omega),aD (by rw[dW hl];omega)]
theorem Dv(hk:k<15):(ed (1+k*7) l.cells).bind (de 7)=some (l.sl.getD k zs).cells:=by
 have e:l.cells.drop (1+k*7)=(l.sl.drop k).flatMap Sl.cells++[u64 (bv l.cR 8:Nat),u8 (l.cR.length:Nat),bQ l.bd,int l.next.ao,u64 l.next.bk]:=by unfold Lf.cells;rw[mq,lN,Lc _ _ _ ah]
 rw[eF _ _ (by rw[dW hl];omega),e,aS,da ah,bG,az,aF ah];exact bO 7 _ bL
theorem Bq{ds':List Nat}:dJ 0 l.cells [u64 (pw n' ds':Nat)]=some ({l with n:=n',ds:=ds'}:Lf).cells:=by rw[cp _ _ _ (by rw[dW hl];simp)];rfl
theorem yn(hk:k<15)(s:Sl):dJ (1+k*7) l.cells s.cells=some ({l with sl:=l.sl.set k s}:Lf).cells:=by
 rw[cp _ _ _ (by rw[dW hl];show _+7<=_;omega)];have e:l.sl=l.sl.take k++l.sl.getD k zs::l.sl.drop (k+1):=by rw[az,aF ah];show l.sl=l.sl.take k++l.sl[k]::l.sl.drop (k+1);rw[<-da ah,bY]
 have e1:l.sl.set k s=l.sl.take k++s::l.sl.drop (k+1):=by
  conv=>lhs;rw[e]
  rw[mW _ _ fE,ax,show k-min k l.sl.length=0 from ah];rfl
 have f1:((l.sl.take k).flatMap Sl.cells).length=k*7:=by rw[uV,ax,bM ah]
 unfold Lf.cells;show some (List.take (1+k*7) _++s.cells++List.drop (1+k*7+7) _)=some (_::(({l with sl:=l.sl.set k s}:Lf).sl.flatMap Sl.cells++_));show _=some (_::((l.sl.set k s).flatMap Sl.cells++_));rw[e1]
 conv=>lhs;rw[e]
 rw[cM,cM,bG,bG,show 1+k*7=k*7+1 from ah,lE,show k*7+1+7=(k*7+7)+1 from ah,lN];simp only[ay];rw[aB ah,aD ah,iz,aT ah,f1,fR];simp[ay]
theorem A4(hk:k+vs.length<=5):dJ (106+k) l.cells vs=some (l.cells.take 106++([u64 (bv l.cR 8:Nat),u8 (l.cR.length:Nat),bQ l.bd,int l.next.ao,u64 l.next.bk].take k++vs++[u64 (bv l.cR 8:Nat),u8 (l.cR.length:Nat),bQ l.bd,int l.next.ao,u64 l.next.bk].drop (k+vs.length))):=by rw[cp _ _ _ (by rw[dW hl];omega),jk,wM hl,jT,wM hl (k:=0)];simp[ay]
theorem Fp:l.cells.take 106=u64 (pw l.n l.ds:Nat)::l.sl.flatMap Sl.cells:=by unfold Lf.cells;rw[lE,aB (by rw[uV,hl];omega),aD (by rw[uV,hl];omega)]
theorem zf(m:ba):dJ 106 l.cells (tF m)=some ({l with cR:=m}:Lf).cells:=by rw[A4 hl (k:=0) bL,Fp hl];rfl
theorem Dt(b:Bool):dJ 108 l.cells [bQ b]=some ({l with bd:=b}:Lf).cells:=by rw[A4 hl (k:=2) bL,Fp hl];rfl
theorem zx(x:Hd):dJ 109 l.cells [int x.ao,u64 x.bk]=some ({l with next:=x}:Lf).cells:=by rw[A4 hl (k:=3) bL,Fp hl];rfl
end
def Lf.e(l:Lf)(i:Nat):Sl:=l.sl.getD (l.ds.getD i 0) zs
structure Lf.R(l:Lf):Prop where
 p:rV l.ds
 n:l.n<=15
 sl:l.sl.length=15
 z:∀i,l.n<=i->i<15->l.e i=zs
 r:∀i,i<l.n->(l.e i).R
 jr:∀i,i+1<l.n->(l.e i).m<(l.e (i+1)).m
 wk:∀i,i<l.n->l.bd=true->(l.e i).m<l.cR
 hi:rW l.cR
 nb:l.bd=false->l.cR=[]
def Lf.dI(l:Lf)(m:ba):Bool:= !l.bd||decide (m<l.cR)
theorem jh{p:Prop}(h:p:=by repeat' first|exact aH.refl|apply aH.fJ|(apply aH.set;rotate_left;omega)):p:=h
theorem XD(l:Lf)(hl:l.sl.length=15)(hh:rW l.cR)(m:ba)(hm:rW m):bo 344 [l.av,.agg (tF m)] (bQ (l.dI m)):=by
 refine bo.ac 2 T0 func344 λh nx=>?_;have d0:¬(nx=nx+1):=ah;have f1:=Mp hl;have f2:=Fg hl;cases hb:l.bd with
 |false=>rw[hb]at f1;simp+decide-dsimp only[f344,go_sem,f1,d0];refine .dT ?_ .cA (by unfold Lf.dI;rw[hb];rfl);exact jh
 |true=>rw[hb]at f1;simp+decide-dsimp only[f344,go_sem,f1,f2,d0];refine aZ (aci m l.cR hm hh) ?_;simp+decide-dsimp only[go_sem];refine .dT ?_ .cA (by unfold Lf.dI;rw[hb];rfl);exact jh
theorem KF(l:Lf)(p:rV l.ds)(hn:l.n<=15)(hl:l.sl.length=15):bo 327 [l.av] (int l.n):=by refine bo.ac 1 T0 func327 λh nx=>?_;have f0:=JR hl;simp+decide-dsimp only[f327,go_sem,f0];refine aZ (p.HI hn) ?_;simp+decide-dsimp only[go_sem];exact .dT (aH.refl.set (an _)) .cA rfl
theorem akY(l:Lf)(p:rV l.ds)(hn:l.n<=15)(hl:l.sl.length=15):bo 357 [l.av] (bQ (decide (6<l.n))):=by refine bo.ac 1 T0 func357 λh nx=>?_;have fa:=jU hl;simp+decide-dsimp only[f357,go_sem,fa];refine aZ (KF l p hn hl) ?_;simp+decide-dsimp only[go_sem];refine .dT (aH.refl.set (an _)) .cA ?_;exact fN (λb=>AV.g (.bool b)) (eW.2 ah)
theorem agH:(((0:Nat):Int)==0)=true:=rfl
theorem ail(s:Sl)(R:s.R):bo 343 [.agg s.cells] (bQ true):=by
 refine bo.ac 1 T0 func343 λh nx=>?_;simp+decide-dsimp only[f343,go_sem];refine aZ (ag5 s.m R.m) ?_;cases hd:s.deep with
 |true=>obtain⟨h1,h2,h3⟩:=R.d hd;simp+decide-dsimp only[go_sem,hd,h1,h2,h3];exact .dT (aH.refl.set (an _)) .cA rfl
 |false=>
  obtain⟨h1,h2⟩:=R.n hd;by_cases h9:s.m.length=9;.have h3:=h2.1 h9;simp+decide-dsimp only[go_sem,hd,h1,h3,h9,agH];exact .dT (aH.refl.set (an _)) .cA rfl
  .have h3:s.rest=[]:=cS λh=>h9 (h2.2 h);have h9':¬((s.m.length:Nat):Int)=9:=ah;simp+decide-dsimp only[go_sem,hd,h1,h3,h9',agH];exact .dT (aH.refl.set (an _)) .cA rfl
theorem aeK:cZ prog h .neq 266 x y (.agg zs.cells) (.agg [u64 0,u8 0,bR [],bR [],bQ false,int 0,u64 0])=some (bQ false):=aL
theorem YA:cZ prog h .neq 264 x y (.agg (tF [])) (.agg [u64 0,u8 0])=some (bQ false):=aL
theorem YH(l:Lf)(R:l.R):bo 337 [l.av] (bQ true):=by
 refine bo.ac 1 T0 func337 λh nx=>?_;have hl:=R.sl;have hn:=R.n;have f0:=JR hl;have f1:=Mp hl;have f2:=Fg hl;have fa:=jU hl;have d0:¬(nx=nx+1):=ah;simp+decide-dsimp only[f337,go_sem,f0];refine aZ (R.p.Ze hn) ?_;cases hb:l.bd
 case' true=>rw[hb]at f1;simp+decide-dsimp only[go_sem,f1,f2];refine aZ (ag5 l.cR R.hi) ?_;simp+decide-dsimp only[go_sem,f1]
 case' false=>have h0:=R.nb hb;rw[hb]at f1;rw[h0]at f2;simp+decide-dsimp only[go_sem,f1,f2,YA]
 all_goals
  refine cL _ _ (λm s h' nx'=>∃(i:Nat) (lm:ba),i<=15/\m=15-i/\(0<i->i<=l.n->lm=(l.e (i-1)).m)/\ao s 1= .ptr nx 0/\ao s 3= .ptr (nx+1) 0/\ao s 31=int i/\(aH nx h h'/\au h' nx=some (.cells l.cells 269)/\au h' (nx+1)=some (.cells (tF lm) 264))/\nx+2<=nx') (n:=15) ?_ ?_;.simp+decide-dsimp only[go_sem,d0];exact⟨0,[],aY _,rfl,(λh=>absurd h (eG 0)),rfl,jh,rfl⟩
  rintro m s h' nx' ⟨i,lm,hi,rfl,MQ,s1,s3,s31,⟨S0,g0,g1⟩,l1⟩;by_cases db:i<15
  .have c0:((i:Int)<15):=ah;have w1:i+1<9223372036854775808:=ah;have d1:¬(nx=nx'):=ah;have d2:¬(nx+1=nx'):=ah;simp+decide-dsimp only[go_sem,s1,s31,c0,g0,f0];refine aZ (R.p.Dc hn db) ?_;have hd:=R.p.mo i;have fs:=Dv hl hd;have he:l.sl.getD (l.ds.getD i 0) zs=l.e i:=rfl;rw[he]at fs;simp+decide-dsimp only[go_sem,s1,g0,f0,hd,fs,d1,reduceAdd];refine aZ (R.p.HI hn) ?_;have GH:l.n<=i->l.e i=zs:=λh=>R.z i h db;have d3:¬(nx'=nx):=ah;have d4:¬(nx'=nx+1):=ah;by_cases Cb:l.n<=i;.have ade:((l.n:Int)<=(i:Int)):=ah;have hz:=GH Cb;rw[hz];simp+decide-dsimp only[go_sem,s1,s3,s31,ade,aeK,w1,d1,d2];exact⟨_,(ah:15-(i+1)<_),i+1,lm,db,rfl,(λ_ h=>ah),rfl,⟨by(repeat' first|exact S0|apply aH.fJ|(apply aH.set;rotate_left;omega)),g0,g1⟩,ah⟩
   .have ade:¬((l.n:Int)<=(i:Int)):=ah;have hr:=R.r i ah;have nh:l.dI (l.e i).m=true:=by
     unfold Lf.dI;cases gC:l.bd with
     |false=>rfl
     |true=>rw[aM (R.wk i ah gC)];rfl
    simp+decide-dsimp only[go_sem,ade];refine aZ (ail (l.e i) hr) ?_;by_cases h0:0<i;.have qP:(0:Int)<(i:Int):=ah;have anI:=MQ h0 ah;have rL:=R.jr (i-1) ah;rw[show i-1+1=i from ah]at rL;have qa:=R.r (i-1) ah;subst anI;simp+decide-dsimp only[go_sem,s3,qP,g1,d2];refine aZ (aci _ _ qa.m hr.m) ?_;simp+decide-dsimp only[go_sem,s1,rL,g0,fa,d1];refine aZ (XD l hl R.hi _ hr.m) ?_;simp+decide-dsimp only[go_sem,s1,s3,s31,nh,g1,w1,d1,d2,reduceAdd];exact⟨_,(ah:15-(i+1)<_),i+1,(l.e i).m,db,rfl,(λ_ _=>rfl),rfl,⟨by(repeat' first|exact S0|apply aH.fJ|(apply aH.set;rotate_left;omega)),g0,rfl⟩,ah⟩
    .have qP:¬(0:Int)<(i:Int):=ah;simp+decide-dsimp only[go_sem,s1,qP,g0,fa,d1];refine aZ (XD l hl R.hi _ hr.m) ?_;simp+decide-dsimp only[go_sem,s1,s3,s31,nh,g1,w1,d1,d2,reduceAdd];exact⟨_,(ah:15-(i+1)<_),i+1,(l.e i).m,db,rfl,(λ_ _=>rfl),rfl,⟨by(repeat' first|exact S0|apply aH.fJ|(apply aH.set;rotate_left;omega)),g0,rfl⟩,ah⟩
  .have e:i=15:=ah;subst e;simp+decide-dsimp only[go_sem,s31];exact .dT S0 .cA rfl
def Lf.at(l:Lf)(i:Nat):Sl:=if i<l.n then l.e i else zs
def iN:Lf:=⟨0,UJ,List.replicate 15 zs,[],false,⟨0,0⟩⟩
def vG:Lf:=⟨0,[],List.replicate 15 zs,[],false,⟨0,0⟩⟩
theorem Uw:(List.replicate 15 zs).getD k zs=zs:=by rw[az,lW];split<;>rfl
theorem oJ:iN.R:=⟨yh,bN,by simp[iN],λi _ _=>Uw,(λi h=>absurd h (bW _)),(λi h=>absurd h (bW _)),(λi h=>absurd h (bW _)),⟨bN,(λh=>by cases h)⟩,λ_=>rfl⟩
def alW:List Value:=[.int .u64 0,.int .u8 0,.string ⟨#[]⟩,.string ⟨#[]⟩,.bool false,.int .i64 0,.int .u64 0]
def Wh:List Value:= .int .u64 0::((List.replicate 15 alW).flatten++[.int .u64 0,.int .u8 0,.bool false,.int .i64 0,.int .u64 0])
theorem af2:dy prog 269=some Wh:=aL
theorem kW:Wh.map AV.g=vG.cells:=rfl
attribute[go_sem] af2
theorem gU.app{nx:Nat}:∀{a b:List AV},gU nx a->gU nx b->gU nx (a++b)
 |[],_,_,hb=>hb
 |_::_,_,ha,hb=>⟨ha.1,gU.app ha.2 hb⟩
theorem Mi{nx:Nat}:∀(l:List Sl),gU nx (l.flatMap Sl.cells)
 |[]=>trivial
 |a::l=>by rw[bG];exact gU.app ⟨trivial,trivial,trivial,trivial,trivial,trivial,trivial,trivial⟩ (Mi l)
theorem MB(l:Lf):gU nx l.cells:=⟨trivial,gU.app (Mi _) ⟨trivial,trivial,trivial,trivial,trivial,trivial⟩⟩
theorem uC(l:Lf):sB nx l.av:=MB l
theorem sP(s:Sl):sB nx (.agg s.cells):=⟨trivial,trivial,trivial,trivial,trivial,trivial,trivial,trivial⟩
theorem ji{a b:Lf}(ha:a.sl.length=15)(hb:b.sl.length=15):dJ 0 a.cells b.cells=some b.cells:=by rw[cp _ _ _ (by rw[dW ha,dW hb];omega),dv,ch,fx,aT (by rw[dW ha,dW hb];omega),cD]
theorem Jp(l:Lf)(R:l.R)(i:Nat):bo 317 [l.av,int i] (.dN [.agg (l.at i).cells,bQ (decide (i<l.n))]):=by
 refine bo.ac 2 T0 func317 λh nx=>?_;have hl:=R.sl;have hn:=R.n;have f0:=JR hl;have fa:=jU hl;have d0:¬(nx=nx+1):=ah;have c1:¬((i:Int)<0):=ah;simp+decide-dsimp only[f317,go_sem,c1,fa,d0];refine aZ (KF l R.p hn hl) ?_;by_cases hi:i<l.n
 .have c2:¬((l.n:Int)<=(i:Int)):=ah;simp+decide-dsimp only[go_sem,c2,fa,d0];refine aZ (YH l R) ?_;simp+decide-dsimp only[go_sem,f0,d0];refine aZ (R.p.Dc hn ah) ?_;have hd:=R.p.mo i;have fs:=Dv hl hd;have he:l.sl.getD (l.ds.getD i 0) zs=l.at i:=by unfold Lf.at;rw[aw hi];rfl
  rw[he]at fs;simp+decide-dsimp only[go_sem,hd,fs,d0,reduceAdd];refine .dT ?_ (.jS (.cQ (sP _)) .cA) (by rw[aM hi]);exact jh
 .have c2:((l.n:Int)<=(i:Int)):=ah;simp+decide-dsimp only[go_sem,c2,reduceAdd];refine .dT ?_ (.jS (.cQ (sP zs)) .cA) (by rw[aU hi];unfold Lf.at;rw[ak hi];rfl);exact jh
theorem ahU:bo 148 [] iN.av:=by refine bo.ac 0 T0 func148 λh nx=>?_;simp+decide-dsimp only[f148,go_sem,kW];refine aZ aks ?_;have q:dJ 0 vG.cells [u64 (pw 0 UJ:Nat)]=some iN.cells:=Bq (l:=vG) rfl (n':=0) (ds':=UJ);have q2:=ji (a:=vG) (b:=iN) rfl rfl;simp+decide-dsimp only[go_sem,kW,q,q2,jU (l:=iN) rfl];refine .dT ?_ (.cQ (uC _)) rfl;exact jh
variable{E:jm}{body yu:Code}{h0:aG}{s:BT AV}{size xY:Nat}{xg:FuncId}
theorem amM(w:Nat)(h:aG)(nx:Nat):aA prog 338 [u64 w] h nx λv h' nx'=>v= .fn 356 [.ptr nx 0]/\au h' nx=some (.cells [u64 w] 71)/\aH nx h h'/\nx'=nx+1:=by refine aA.ac 1 T0 func338 ?_;simp+decide-dsimp only[f338,go_sem];exact aH.refl.set (an _)
theorem akJ{ds:List Nat}(p:rV ds)(hn:n<=15){L:Nat}(Inv:Nat->aG->Nat->Prop)(Out:aG->Nat->Prop)
 (hb:au h0 b=some (.cells [u64 (pw n ds:Nat)] 71)) (hk:∀i h nx,Inv i h nx->au h b=au h0 b) (hi:Inv 0 h0 xY)
 (jf:∀i h nx,i<n->Inv i h nx->(∃r,au h L=some (.loop r)/\r.params.length=2)/\jH prog L [int i,int (ds.getD i 0:Nat)] h nx (λv h' nx'=>v=bQ true/\Inv (i+1) h' nx'\/v=bQ false/\Out h' nx'))
 (he:∀s h nx,Inv n h nx->E .iA s h nx) (ho:∀s h nx,Out h nx->E .ret s h nx):
 W prog xt (λ_=>[]) (f356.body.getD .skip) E (ey [.sO L,.ptr b 0] 0 .nil) h0 xY:=by
 simp+decide-dsimp only[f356,go_sem,hb];refine aZ (p.Ze hn) ?_;simp+decide-dsimp only[go_sem,hb];refine aZ (p.HI hn) ?_;simp+decide-dsimp only[go_sem];refine cL _ _ (λm s h' nx'=>∃i,i<=n/\m=n-i/\ao s 0= .sO L/\ao s 1= .ptr b 0/\ao s 8=int n/\ao s 9=int i/\Inv i h' nx') (n:=n) ?_ ?_;.simp+decide-dsimp only[go_sem];exact⟨0,aY _,rfl,rfl,hi⟩
 rintro m s h' nx' ⟨i,hi,rfl,s0,s1,s8,s9,hI⟩;have Q7:au h' b=some (.cells [u64 (pw n ds:Nat)] 71):=by rw[hk _ _ _ hI];exact hb
 by_cases mV:i<n
 .have w1:i+1<9223372036854775808:=ah;obtain⟨⟨r,hr,hp⟩,hR⟩:=jf i h' nx' mV hI;simp+decide-dsimp only[go_sem,s0,s1,s8,s9,mV,Q7];refine aZ (p.Dc hn ah) ?_;simp+decide-dsimp only[go_sem,hr,hp,reduceAdd];refine Qf hR λv h2 dU hv=>?_;rcases hv with⟨rfl,hI2⟩|⟨rfl,hO⟩
  .simp+decide-dsimp only[go_sem,s0,s1,s8,s9,w1];exact⟨_,(ah:n-(i+1)<_),i+1,mV,rfl,rfl,hI2⟩
  .simp+decide-dsimp only[go_sem];exact ho _ _ _ hO
 .have:i=n:=ah;subst this;simp+decide-dsimp only[go_sem,s8,s9,eG];exact he _ _ _ hI
theorem aex{ds:List Nat}(p:rV ds)(hn:n<=15){ps:Array Tmp}{E:Option Nat->jm}{ka kb kc}
 (hb:au h b=some (.cells [u64 (pw n ds:Nat)] 71)) (Jr:b<nx)
 (hp:ps.toList.length=2) (kD:∀r0:mM,r0=⟨.ready,none,xg,s,size,ps.toList,yu,body,nx⟩->∃(Inv:Nat->aG->Nat->Prop) (Out:aG->Nat->Prop),Inv 0 (aK (aK h nx (.defs (some []))) (nx+1) (.loop r0)) (nx+2)/\
  (∀i h' nx',Inv i h' nx'->au h' (nx+1)=some (.loop r0)/\au h' b=au h b)/\
  (∀h' nx',Out h' nx'->au h' (nx+1)=some (.loop (r0.fY .done (some .ret))))/\
  (∀i h' nx',i<n->Inv i h' nx'->jH prog (nx+1) [int i,int (ds.getD i 0:Nat)] h' nx' (λv h' nx'=>v=bQ true/\Inv (i+1) h' nx'\/v=bQ false/\Out h' nx'))/\
  (∀h' nx',Inv n h' nx'->E (some nx) .iA s (aK h' (nx+1) (.loop (r0.fY .exhausted none))) nx')/\
  (∀h' nx',Out h' nx'->E (some nx) .ret s (aK h' (nx+1) (.loop ((r0.fY .done (some .ret)).fY .exhausted (some .ret)))) nx')):
 Tf prog xt (λ_=>[]) xg size (.fn 356 [.ptr b 0]) ps yu body E s h nx ka kb kc:=by
 obtain⟨r0,yT⟩:∃r0:mM,r0=⟨.ready,none,xg,s,size,ps.toList,yu,body,nx⟩:=⟨_,rfl⟩;obtain⟨Inv,Out,hi,hk,hko,jf,he,ho⟩:=kD r0 yT;have hpd:r0.params.length=2:=by rw[yT];exact hp
 have aej:r0.state= .ready:=by rw[yT]
 have hpn:r0.pending=none:=by rw[yT]
 refine⟨356,_,_,f356.body.getD .skip,rfl,func356,aL,rfl,rfl,by show 2<=_;decide,aL,aL,?_⟩;rw[<-yT];have q:au (aK (aK h nx (.defs (some []))) (nx+1) (.loop r0)) b=au h b:=by rw[aj,ak ah,aj,ak ah]
 refine akJ p hn Inv Out (by rw[q];exact hb) (λi h' nx' hI=>by rw[(hk i h' nx' hI).2,q]) hi (λi h' nx' mV hI=>⟨⟨r0,(hk i h' nx' hI).1,hpd⟩,jf i h' nx' mV hI⟩) (λs' h' nx' hI=>?_) (λs' h' nx' hO=>?_);.exact⟨r0,(hk _ _ _ hI).1,(by rw[aej];exact λe=>(by cases e)),.inl ⟨hpn,by rw[hpn];exact he _ _ hI⟩⟩
 .exact⟨_,hko _ _ hO,(λe=>by cases e),.inr ⟨rfl,ho _ _ hO⟩⟩
theorem afh{l:Lf}(hl:l.sl.length=15)(hk:k<15):(ed (1+k*7) l.cells).bind (de 2)=some (tF (l.sl.getD k zs).m):=by
 have h7:=Dv hl hk;rw[eF _ _ (by rw[dW hl];omega),aS]at h7⊢;rw[bO _ _ (by rw[aC,dW hl];omega)]at h7⊢;injection h7 with h7
 have:=fN (List.take 2) h7;rw[bf]at this;exact fN some this
structure Lf.Pl(l:Lf)(m:ba)(i:Nat):Prop where
 le:i<=l.n
 lt:∀j,j<i->(l.e j).m<m
 ge:i<l.n->¬(l.e i).m<m
def YB:Nat->cU:=λid=>if id=6 then[(z5,[],some 6),([7],[],none)]else if id=7 then[(z7,[],some 8),([],[5,6,7],some 9),([],[],none)]else[]
theorem Qq(l:Lf)(R:l.R)(m:ba)(hm:rW m)(i:Nat)(pl:l.Pl m i):bo 316 [l.av,.agg (tF m)] (.dN [int i,bQ (decide (i<l.n/\(l.e i).m=m))]):=λh nx=>by
 have hl:=R.sl;have hn:=R.n;have f0:=JR hl;have fa:=jU hl;refine aA.sk (?_:aA prog 316 [l.av,.agg (tF m)] h nx (Pure h nx λv=>v= .dN [int i,bQ (decide (i<l.n/\(l.e i).m=m))])) λ_ _ _ q=>q;refine aA.QB prog xt pk YB (λ_=>[]) func316 (c:=f316.body.getD .skip) rfl rfl aL aL (by show 2<=_;decide) ?_;have d0:¬(nx=nx+1):=ah;have d2:¬(nx=nx+1+1):=ah;have d3:¬(nx=nx+1+1+1):=ah;simp+decide-dsimp only[f316,go_sem,d0,d2,d3,fa];refine aZ (YH l R) ?_;simp+decide-dsimp only[go_sem,d0,d2,d3,f0];generalize hH:aK (aK (aK (aK h nx _) (nx+1) _) (nx+1+1) _) (nx+1+1+1) _=H;have H0:aH nx h H:=by rw[<-hH];exact jh
 have g0:au H nx=some (.cells l.cells 269):=by rw[<-hH,aj,ak d3,aj,ak d2,aj,ak d0,aj,aw rfl]
 have g1:au H (nx+1)=some (.cells (tF m) 264):=by rw[<-hH,aj,ak ah,aj,ak ah,aj,aw rfl]
 have g2:au H (nx+2)=some (.cells [int 0] 3):=by rw[<-hH,aj,ak ah,aj,aw rfl]
 have g3:au H (nx+3)=some (.cells [bQ false] 4):=by rw[<-hH,aj,aw rfl]
 clear hH;refine cf (amM _ H (nx+1+1+1+1)) λ_ H1 cm l1 ⟨ev,gb,BJ,e1⟩=>?_
 subst ev;subst e1;simp+decide-dsimp only[go_sem];refine aex R.p hn gb ah rfl λr0 yT=>?_
 generalize hHs:aK (aK H1 (nx+1+1+1+1+1) _) (nx+1+1+1+1+1+1) _=Hs;have k0:∀c,c<nx+4->au Hs c=au H c:=λc hc=>by rw[<-hHs,aj,ak ah,aj,ak ah,BJ c ah]
 have k1:au Hs (nx+4)=some (.cells [u64 (pw l.n l.ds:Nat)] 71):=by rw[<-hHs,aj,ak ah,aj,ak ah];exact gb
 have k2:au Hs (nx+5)=some (.defs (some [])):=by rw[<-hHs,aj,ak ah,aj,aw rfl]
 have k3:au Hs (nx+6)=some (.loop r0):=by rw[<-hHs,aj,aw rfl]
 clear hHs;refine⟨λj h' nx'=>(∀k,k<j->(l.e k).m<m)/\(∀c,c<nx+7->au h' c=au Hs c)/\nx+7<=nx',
  λh' nx'=>i<l.n/\au h' (nx+2)=some (.cells [int i] 3)/\au h' (nx+3)=some (.cells [bQ (decide ((l.e i).m=m))] 4)/\au h' (nx+5)=some (.defs (some []))/\au h' (nx+6)=some (.loop (r0.fY .done (some .ret)))/\(∀c,c<nx->au h' c=au h c)/\nx+7<=nx',?_,?_,?_,?_,?_,?_⟩
 .exact⟨λk hk=>absurd hk (bW _),λ_ _=>rfl,an _⟩
 .rintro j h' nx' ⟨q1,q2,q3⟩;exact⟨by rw[q2 _ ah];exact k3,by rw[q2 _ ah,show nx+1+1+1+1=nx+4 from rfl,k1];exact gb.symm⟩
 .rintro h' nx' ⟨_,_,_,_,q,_⟩;exact q
 .rintro j h' nx' hj ⟨q1,q2,q3⟩;have a0:au h' nx=some (.cells l.cells 269):=by rw[q2 _ ah,k0 _ ah];exact g0
  have a1:au h' (nx+1)=some (.cells (tF m) 264):=by rw[q2 _ ah,k0 _ ah];exact g1
  have a2:au h' (nx+1+1)=some (.cells [int 0] 3):=by rw[q2 _ ah,k0 _ ah];exact g2
  have a3:au h' (nx+1+1+1)=some (.cells [bQ false] 4):=by rw[q2 _ ah,k0 _ ah];exact g3
  have a5:au h' (nx+1+1+1+1+1)=some (.defs (some [])):=by rw[q2 _ ah];exact k2
  have c7:¬(nx+1+1=nx+1+1+1+1+1+1):=ah;have c8:¬(nx+1+1+1=nx+1+1+1+1+1+1):=ah;have c9:¬(nx+1+1+1=nx+1+1):=ah;have c10:¬(nx+1+1+1+1+1+1=nx+1+1):=ah;have c11:¬(nx+1+1+1+1+1+1=nx+1+1+1):=ah;have a6:au h' (nx+1+1+1+1+1+1)=some (.loop r0):=by rw[q2 _ ah];exact k3
  have hd:=R.p.mo j;have fs:=Dv hl hd;have he:l.sl.getD (l.ds.getD j 0) zs=l.e j:=rfl;rw[he]at fs;have hr:=R.r j hj;refine jH.mk2 pk YB yT a6 aL λrb=>?_;have b1:¬(nx=nx'):=ah;have b2:¬(nx+1=nx'):=ah;have b3:∀q,¬(nx=nx+1+q):=λq=>ah;have b4:∀q,¬(nx+1=nx+1+1+q):=λq=>ah;have b6:¬(nx=nx+1+1+1+1+1+1):=ah;have b7:¬(nx+1=nx+1+1+1+1+1+1):=ah;have fs2:(ed (1+l.ds.getD j 0*7) l.cells).bind (de 2)=some (tF (l.e j).m):=afh hl hd;simp+decide-dsimp only[go_sem,YB,a0,a1,a6,hd,b6,b7,fs2];refine aZ (aci _ m hr.m hm) ?_;by_cases db:(l.e j).m<m
  .simp+decide-dsimp only[go_sem,a6,db];refine .inl ⟨λk hk=>?_,λc hc=>?_,ah⟩
   .rcases bg k j with h|h;.exact q1 k h
    .have:k=j:=ah;subst this;exact db
   .split;.rename_i e;subst e;exact k3.symm
    .exact q2 c hc
  .have CT:i=j:=by
    rcases cI i j with h|h|h;.exact absurd (q1 i h) (pl.ge ah)
    .exact h
    .exact absurd (pl.lt j h) db
   subst CT;simp+decide-dsimp only[go_sem,YB,a0,a1,a6,db,hd,a2,a3,c7,c8,c9,c10,c11,b6,b7,fs2,S8 hr.m hm];refine .inr ⟨hj,?_,λc hc=>?_,ah⟩;.rw[ak ah,ak ah];exact a5
   .rw[ak ah,ak ah,ak ah,q2 c ah,k0 c ah,H0 c hc,ak ah]
 .rintro h' nx' ⟨q1,q2,q3⟩;have hi:i=l.n:=by
   rcases bg i l.n with h|h;.exact absurd (q1 i h) (pl.ge h)
   .have:=pl.le;omega
  have a0:au h' nx=some (.cells l.cells 269):=by rw[q2 _ ah,k0 _ ah];exact g0
  have a2:au h' (nx+1+1)=some (.cells [int 0] 3):=by rw[q2 _ ah,k0 _ ah];exact g2
  have a3:au h' (nx+1+1+1)=some (.cells [bQ false] 4):=by rw[q2 _ ah,k0 _ ah];exact g3
  have a5:au h' (nx+1+1+1+1+1)=some (.defs (some [])):=by rw[q2 _ ah];exact k2
  have b6:¬(nx=nx+1+1+1+1+1+1):=ah;have b7:¬(nx+1+1=nx+1+1+1+1+1+1):=ah;have b8:¬(nx+1+1+1=nx+1+1+1+1+1+1):=ah;simp+decide-dsimp only[go_sem,a0,fa,b6];refine aZ (KF l R.p hn hl) ?_;simp+decide-dsimp only[go_sem,a2,a3,a5,b7,b8];refine⟨_,rfl,.dT ?_ (.jS .cA .cA) (by rw[aU (λh=>ah),hi])⟩;have S1:aH nx h h':=λc hc=>by rw[q2 c ah,k0 c ah,H0 c hc]
  repeat' first|exact S1|apply aH.fJ|(apply aH.set;rotate_left;omega)
 .rintro h' nx' ⟨q1,q2,q3,q4,q5,q6,q7⟩;dsimp only[jm.bJ];have b5:¬(nx+1+1+1+1+1=nx+1+1+1+1+1+1):=ah;simp+decide-dsimp only[go_sem,q2,q3,q4,b5];refine⟨_,rfl,.dT ?_ (.jS .cA .cA) (by rw[eW.2 (⟨λh=>h.2,λh=>⟨q1,h⟩⟩:i<l.n/\(l.e i).m=m↔(l.e i).m=m)])⟩;have S1:aH nx h h':=q6
  repeat' first|exact S1|apply aH.fJ|(apply aH.set;rotate_left;omega)
end
end bC
end Go.Proofs.YtonnifoeokagjaaGreat
