/- The theorem plans_holds of OrdersPlans: part 14 of its proof; no conditions. -/
import Derived.Test.YtonnifoeokagjaaGreatF13
namespace Go.Proofs.YtonnifoeokagjaaGreat
set_option linter.all false
set_option maxRecDepth 8000
open Go Go.RowKit
open Tryz
open Nat(reduceAdd reduceMul)
namespace bC
noncomputable section
variable{Pk:ba->Prop}{iJ:Nat->Prop}{par rk:Nat->Nat}
def My:Nat->cU:=λid=>if id=12 then[(z10,[],some 11),([12,13,14],[8],none)]else[]
set_option maxHeartbeats 4000000 in
theorem alp(t:Mt)(h:aG)(nx:Nat)(o:t.ok h nx){pre lo:Nat->ba}{fC:Nat->Nat}(I:MI Pk (cV t.a.es) t.aO pre lo fC par rk iJ)(key:ba)(hk:key.length<60000):
 aA prog 302 [.ptr t.tb 0,bR key,.g .nilFunc] h nx λv h' nx'=>(∃(s:ba) (lS again:Bool),v= .dN [bR s,bQ lS,bQ again])/\h'=h/\nx'=nx:=by
 have db:=o.lt;have d0:¬(t.tb=nx):=ah;refine aA.pc 3 My func302 ?_;simp+decide-dsimp only[f302,go_sem];refine bm (SZ t _ _ o) ?_;simp+decide-dsimp only[go_sem,o.tr,reduceAdd];refine cL _ _ (λmm s h' nx'=>∃(i:Nat) (hd:Hd),mm=2-i/\i<=2/\Head (cV t.a.es) pre lo hd (key.take (8*i))/\
  ao s 0= .ptr t.tb 0/\ao s 1=bR key/\ao s 2= .g .nilFunc/\ao s 9= .ptr nx 0/\ao s 10=int i/\
  (aH nx h h'/\au h' nx=some (.cells [int hd.ao,u64 hd.bk] 245))/\nx+1<=nx') (n:=2) ?_ ?_
 .simp+decide-dsimp only[go_sem];exact⟨0,t.aO,rfl,aY _,I.head,bL,jh,rfl⟩
 rintro mm s h' nx' ⟨i,hd,rfl,Df,H,s0,s1,s2,s9,vE,⟨S0,g0⟩,l1⟩;obtain⟨L,f,fm,D,hLl,pf,flo,fcv⟩:=I.go H (pP (mC key i));obtain⟨n,hn,Tg⟩:=H.ex;obtain⟨hf,wv⟩:=D.aE;have R:=(I.lf _ _ _ hf wv).1;obtain⟨r,pl⟩:=R.pl (mC key i);have hR:=yp key i;have n0:¬(nx=nx'):=ah;simp+decide-dsimp only[go_sem,s1,vE];refine aZ (PZ key i hk ah) ?_;simp+decide-dsimp only[go_sem,s0,s2,s9,g0,n0,reduceAdd];generalize hA:aK (aK h' nx' _) nx' _=A;have SA:aH nx h A:=by rw[<-hA];exact(S0.set ah).set ah
 have k0:au A nx=some (.cells [int hd.ao,u64 hd.bk] 245):=by rw[<-hA,aj,ak n0,aj,ak n0];exact g0
 have k1:au A nx'=some (.cells (tF (mC key i)) 264):=by rw[<-hA,aj,aw rfl];rfl
 clear hA;have oA:=o.aX (h':=A) (nx':=nx'+1) (λb hb=>SA b (o.dm hb)) ah;have c:=agP t A (nx'+1) oA I hR hn (by rw[H.lo];exact kj) (λhb=>by rw[Tg]at hb;cases hb) D;rw[Hd.av,Hd.cells]at c;refine bm c ?_;have ft:=ji (a:=vG) (b:=fm.aE) rfl R.sl;have fll:=dW R.sl;have UM:=jU R.sl;have n1:¬(nx'=nx'+1):=ah;have n2:¬(nx=nx'+1):=ah;simp+decide-dsimp only[go_sem,k1,kW,ft,fll,UM,gN,n1];refine aZ (Qq fm.aE R _ hR r pl) ?_;simp+decide-dsimp only[go_sem,UM];refine aZ (Jp fm.aE R r) ?_;have n3:¬(nx=nx'+1+1):=ah;by_cases jz:r<fm.aE.n/\(fm.aE.e r).m=mC key i
 case neg=>
  have hd:=aU jz;simp+decide-dsimp only[go_sem,My,hd,reduceAdd];refine⟨?_,_,.lZ .bR .cA .cA,_,_,_,rfl⟩
  repeat' first|exact aH.refl|apply aH.fJ|(apply aH.set;rotate_left;omega)
  exact SA
 have hd:=aM jz;have AE:fm.aE.at r=fm.aE.e r:=aw jz.1;cases th:(fm.aE.e r).deep with
 |false=>
  by_cases hr:(fm.aE.e r).rest=key.drop (8*(i+1))
  all_goals
   simp+decide-dsimp only[go_sem,My,s1,vE,hd,AE,th,reduceAdd];refine aZ (adr key i hk ah) ?_;simp+decide-dsimp only[go_sem,hr];refine⟨?_,_,.lZ .bR .cA .cA,_,_,_,rfl⟩
   repeat' first|exact aH.refl|apply aH.fJ|(apply aH.set;rotate_left;omega)
   exact SA
 |true=>
  simp+decide-dsimp only[go_sem,My,s0,s1,s2,s9,vE,k0,hd,AE,th,n2,n3,reduceAdd];have ok:=I.ao _ _ _ hf wv r jz.1;obtain⟨⟨ln,z1,z2⟩,z3,z4,z5⟩:=ok.link th;have hnm:nameOf (fm.aE.e r).m=(key.drop (8*i)).take 8:=by rw[jz.2];exact qC _
  have h9:=((R.r r jz.1).d th).1;have xT:8*(i+1)<key.length:=by
   have e:(mC key i).length=9:=by rw[<-jz.2];exact h9
   unfold mC at e;rw[kM,aC]at e;omega
  have sM:pre (fm.aE.e r).link.ao=key.take (8*(i+1)):=by rw[z3,pf,hnm,<-jT];congr 1
  have hi3:i+1<=2:=by obtain⟨j,j1,j2⟩:=I.pl _ _ _ z1;rw[sM,ax]at j1;omega
  have wi:i+1<9223372036854775808:=ah;simp+decide-dsimp only[go_sem,wi];refine⟨2-(i+1),ah,i+1,(fm.aE.e r).link,rfl,hi3,⟨⟨ln,z1,z2⟩,z4,sM⟩,rfl,?_⟩;refine⟨⟨?_,rfl⟩,ah⟩
  repeat' first|exact aH.refl|apply aH.fJ|(apply aH.set;rotate_left;omega)
  exact SA
theorem aeZ:cN prog 489=some 3:=aL
theorem agS:dy prog 489=some [.int .u64 0,.int .u8 0,.bool false]:=aL
theorem aam:aQ prog 489 0=some 0:=aL
theorem ZL:aQ prog 489 1=some 2:=aL
theorem ahx:fieldsOf prog 489=some [(0,2),(2,1)]:=aL
attribute[go_sem] aeZ agS aam ZL ahx
variable{aO hd:Hd}
abbrev slO(r:Option Sl):Sl:=r.getD zs
abbrev zH(m:ba)(b:Bool):List AV:=[u64 (bv m 8:Nat),u8 (m.length:Nat),bQ b]
theorem ahJ(t:Mt)(h:aG)(nx:Nat)(o:t.ok h nx){pre lo:Nat->ba}{fC:Nat->Nat}(I:MI Pk (cV t.a.es) aO pre lo fC par rk iJ)
 {m:ba} (hm:rW m) {b:Bool}  {p:ba} (H:Head (cV t.a.es) pre lo hd p) {r:Option Sl} (E:zU (cV t.a.es) hd m b r):
 aA prog 341 [.ptr t.tb 0,hd.av,.agg (zH m b),.g .nilFunc] h nx (dr (.dN [.agg (slO r).cells,bQ r.isSome,bQ false]) h nx):=by
 have db:=o.lt;obtain⟨n,hn,Tg⟩:=H.ex;obtain⟨L,f,fm,k,D,El⟩:=E;have Hk:¬(nx=nx+1):=ah;have LY:¬(nx=nx+1+1):=ah;have UO:¬(nx+1=nx+1+1):=ah;have Zm:¬(nx=nx+1+1+1):=ah;have e13:¬(nx+1=nx+1+1+1):=ah;have e23:¬(nx+1+1=nx+1+1+1):=ah;refine aA.pc 4 T0 func341 ?_;simp+decide-dsimp only[f341,go_sem,Hd.av,Hd.cells,Hk,LY,UO];generalize hA:aK (aK (aK h nx _) _ _) _ _=A;have SA:aH nx h A:=by rw[<-hA];exact jh
 have kA1:au A (nx+1)=some (.cells (zH m b) 489):=by rw[<-hA,aj,ak ah,aj,aw rfl]
 have kA2:au A (nx+1+1)=some (.cells zs.cells 266):=by rw[<-hA,aj,aw rfl];rfl
 clear hA;have oA:=o.aX (h':=A) (nx':=nx+1+1+1) (λb hb=>SA b (o.dm hb)) ah;have c:=agP t A _ oA I hm hn (by rw[H.lo];exact kj) (λhb=>by rw[Tg]at hb;cases hb) D;rw[Hd.av,Hd.cells]at c;refine bm c ?_;obtain⟨hf,wv⟩:=D.aE;have R:=(I.lf _ _ _ hf wv).1;have ft:=ji (a:=vG) (b:=fm.aE) rfl R.sl;have fll:=dW R.sl;have UM:=jU R.sl;simp+decide-dsimp only[go_sem,kW,ft,fll,gN];generalize hB:aK (aK A (nx+1+1+1) _) (nx+1+1+1) _=B;have SB:aH nx h B:=by rw[<-hB];exact(SA.set ah).set ah
 have kB1:au B (nx+1)=some (.cells (zH m b) 489):=by rw[<-hB,aj,ak e13,aj,ak e13];exact kA1
 have kB2:au B (nx+1+1)=some (.cells zs.cells 266):=by rw[<-hB,aj,ak e23,aj,ak e23];exact kA2
 have kB3:au B (nx+1+1+1)=some (.cells fm.aE.cells 269):=by rw[<-hB,aj,aw rfl]
 clear hB;refine cL _ _ (λmm s h' nx'=>∃(n:Mn) (sn g:Nat),CD (cV t.a.es) m b n mm r/\cV t.a.es sn=some (g,n)/\n.cQ=true/\
  ao s 0= .ptr t.tb 0/\ao s 3= .g .nilFunc/\ao s 6= .ptr (nx+1) 0/\ao s 8= .ptr (nx+1+1) 0/\ao s 11= .ptr (nx+1+1+1) 0/\ao s 12=bQ true/\
  (aH nx h h'/\au h' (nx+1)=some (.cells (zH m b) 489)/\au h' (nx+1+1)=some (.cells zs.cells 266)/\au h' (nx+1+1+1)=some (.cells n.aE.cells 269))/\nx+4<=nx') (n:=k) ?_ ?_
 .simp+decide-dsimp only[go_sem,kB1,kB2,kB3];exact⟨fm,f.ao,f.bk,El,hf,wv,SB,rfl⟩
 rintro mm s h' nx' ⟨n,sn,g,El,hn,hnl,s0,s3,s6,s8,w8,Gt,⟨S0,g1,g2,g3⟩,l1⟩;have R:=(I.lf _ _ _ hn hnl).1;have qQ:=R.sl;have fll:=dW qQ;have UM:=jU qQ;have fbd:=Mp qQ;have fnx:=FQ qQ;have n1:¬(nx+1=nx'):=ah;have n2:¬(nx+1+1=nx'):=ah;have n3:¬(nx+1+1+1=nx'):=ah;obtain⟨i,pl⟩:=R.pl m;have hi:=pl.le;have h15:=R.n;have wi:i+1<9223372036854775808:=ah;simp+decide-dsimp only[go_sem,s6,w8,Gt,g1,g3,UM];refine aZ (Qq n.aE R m hm i pl) ?_;have h3:((i<n.aE.n/\(n.aE.e i).m=m)/\b=true)\/((i<n.aE.n/\(n.aE.e i).m=m)/\b=false)\/¬(i<n.aE.n/\(n.aE.e i).m=m):=by
  by_cases jz:i<n.aE.n/\(n.aE.e i).m=m
  .cases b;.exact .inr (.inl ⟨jz,rfl⟩)
   .exact .inl ⟨jz,rfl⟩
  .exact .inr (.inr jz)
 rcases h3 with⟨jz,hbt⟩|⟨jz,hbf⟩|jz
 case' inl=>have Pw:i+1=n.aE.go m b i:=(aw ⟨jz,hbt⟩).symm;simp+decide-dsimp only[go_sem,s6,w8,g1,g3,UM,jz,hbt,wi];refine aZ (Jp n.aE R (i+1)) ?_;have hj:i+1<=n.aE.n:=jz.1
 case' inr.inl=>have Pw:i=n.aE.go m b i:=(ak (λh=>by rw[hbf]at h;cases h.2)).symm;simp+decide-dsimp only[go_sem,s6,w8,g1,g3,UM,jz,hbf];refine aZ (Jp n.aE R i) ?_;have hj:i<=n.aE.n:=hi
 case' inr.inr=>have Pw:i=n.aE.go m b i:=(ak (λh=>jz h.1)).symm;simp+decide-dsimp only[go_sem,w8,g3,UM,jz];refine aZ (Jp n.aE R i) ?_;have hj:i<=n.aE.n:=hi
 all_goals
  rw[Pw]at hj⊢;by_cases L3:n.aE.go m b i<n.aE.n
  case pos=>
   obtain rfl:=El.fun (.jz pl L3);have AE:n.aE.at (n.aE.go m b i)=n.aE.e (n.aE.go m b i):=aw L3;generalize hjj:n.aE.go m b i=j at hj L3 AE⊢;simp+decide-dsimp only[go_sem,s8,g2,L3,AE,n2,reduceAdd];refine .dT ?_ (.lZ (.cQ (sP (n.aE.e j))) .cA .cA) rfl
   repeat' first|exact aH.refl|apply aH.fJ|(apply aH.set;rotate_left;omega)
   exact S0
  case' neg=>cases hb:n.aE.bd
  case neg.false=>
   obtain rfl:=El.fun (.none pl L3 hb);have AE:n.aE.at (n.aE.go m b i)=zs:=ak L3;rw[hb]at fbd;generalize hjj:n.aE.go m b i=j at hj L3 AE⊢;simp+decide-dsimp only[go_sem,s8,w8,g2,g3,fbd,L3,AE,n2,n3,reduceAdd];refine .dT ?_ (.lZ (.cQ ⟨trivial,trivial,trivial,trivial,trivial,trivial,trivial,trivial⟩) .cA .cA) rfl
   repeat' first|exact aH.refl|apply aH.fJ|(apply aH.set;rotate_left;omega)
   exact S0
  case neg.true=>
   rw[hb]at fbd;obtain⟨n',a1,a2,a3,a4⟩:=I.next _ _ _ hn hnl hb;have AE:n.aE.at (n.aE.go m b i)=zs:=ak L3;cases El with
   |jz Am h'=>rw[Am.uniq pl]at h';exact absurd h' L3
   |none _ _ gC=>rw[hb]at gC;cases gC
   |next pq hq bq sq dq=>
    rename_i RJ i2 k2;have:=sq.symm.trans a1;injection this with this;injection this with _ this;subst this
    generalize hjj:n.aE.go m b i=j at hj L3 AE⊢;have n4:¬(nx+1+1+1=nx'+1):=ah;have n5:¬(nx+1=nx'+1):=ah;have n6:¬(nx+1+1=nx'+1):=ah;simp+decide-dsimp only[go_sem,s0,s3,w8,g3,fbd,fnx,L3,AE,n3,n4,reduceAdd];generalize hC:aK (aK (aK h' nx' _) nx' _) (nx'+1) _=C;have SC:aH nx h C:=by rw[<-hC];exact((S0.set ah).set ah).set ah
    have kC1:au C (nx+1)=some (.cells (zH m b) 489):=by rw[<-hC,aj,ak n5,aj,ak n1,aj,ak n1];exact g1
    have kC2:au C (nx+1+1)=some (.cells zs.cells 266):=by rw[<-hC,aj,ak n6,aj,ak n2,aj,ak n2];exact g2
    have kC3:au C (nx+1+1+1)=some (.cells n.aE.cells 269):=by rw[<-hC,aj,ak n4,aj,ak n3,aj,ak n3];exact g3
    have kC4:au C (nx'+1)=some (.cells (Bg.map AV.g) 271):=by rw[<-hC,aj,aw rfl]
    clear hC;have oC:=o.aX (h':=C) (nx':=nx'+1+1) (λb hb=>SC b (o.dm hb)) ah;have c:=ajt t C (nx'+1+1) oC a1;rw[Hd.av,Hd.cells]at c;refine bm c ?_;have R2:=(I.lf _ _ _ a1 a2).1;have fs:=AY (A:=Bg.map AV.g) (n:=RJ) rfl R2.sl;have fa:=Bp R2.sl;have fl:=oD R2.sl;have F:wF RJ.cells 0 RJ:=wF.mk' (pre:=[]) R2.sl;have f2:=F.aE;have ft:=ji (a:=n.aE) (b:=RJ.aE) qQ R2.sl;have al9:=dW R2.sl;simp+decide-dsimp only[go_sem,s0,s3,s6,s8,w8,Gt,kC1,kC2,kC3,kC4,fs,fl,F8,f2,ft,al9,gN,n4,n5,n6]
    try subst hbt
    try subst hbf
    exact⟨k2,aW _,RJ,_,_,dq,a1,a2,⟨by(repeat' first|exact aH.refl|apply aH.fJ|(apply aH.set;rotate_left;omega));exact SC,by first|rfl|exact⟨rfl,rfl⟩⟩,ah⟩
variable{a b' c':AV}{fb:Bool}{h:aG}{k nx:Nat}{key:ba}{σ:kS}
def G5:Nat->cU:=λid=>if id=5 then[([0,1,2],[],some 3),([4],[1],some 5),([],[],none)]else if id=15 then[(z7,[],some 8),([],[],some 9),([],[],some 10),([],[],some 11),([],[],none)]else[]
def Zn(p:ba):Option (ba×ba)->AV
 |none=> .dN [bR [],bR [],bQ false,bQ false]
 |some z=> .dN [bR (p++z.1),bR z.2,bQ true,bQ false]
theorem Fz.Tl{b c d a' d':AV}(h1:Fz h nx a a')(h2:Fz h nx b b')(h3:Fz h nx c c')(h4:Fz h nx d d'):Fz h nx (.dN [a,b,c,d]) (.dN [a',b',c',d']):= .dN (.cons h1 (.cons h2 (.cons h3 (.cons h4 .nil))))
theorem Ty{h:Hd}{fm:ba}{after:Bool}{r:Option (ba×ba)}(x:BS σ k h key after fm fb r):
 (zU σ h fm fb none/\r=none)\/∃s,zU σ h fm fb (some s)/\((s.deep=false/\SrC key after s/\r=some (nameOf s.m++s.rest,s.val))\/(s.deep=false/\¬SrC key after s/\∃k',k=k'+1/\BS σ k' h key after s.m true r)\/
  (s.deep=true/\∃r3 k',BS σ k' s.link (wx key s) (w9 key after s) (cut (wx key s)) false r3/\((∃z,r3=some z/\r=some (nameOf s.m++z.1,z.2))\/(r3=none/\∃k'',k=k''+1/\BS σ k'' h key after s.m true r)))):=by
 cases x with
 |none e=>exact .inl ⟨e,rfl⟩
 |jz e hd c=>exact .inr ⟨_,e,.inl ⟨hd,c,rfl⟩⟩
 |Ha e hd c n=>exact .inr ⟨_,e,.inr (.inl ⟨hd,c,_,rfl,n⟩)⟩
 |Ij e hd d=>exact .inr ⟨_,e,.inr (.inr ⟨hd,_,_,d,.inl ⟨_,rfl,rfl⟩⟩)⟩
 |zh e hd d n=>exact .inr ⟨_,e,.inr (.inr ⟨hd,_,_,d,.inr ⟨rfl,_,rfl,n⟩⟩)⟩
set_option maxHeartbeats 4000000 in
theorem akw(t:Mt){pre lo:Nat->ba}{fC:Nat->Nat}(I:MI Pk (cV t.a.es) aO pre lo fC par rk iJ):
 ∀(d:Nat) (hd:Hd) (p:ba),Head (cV t.a.es) pre lo hd p->24<=p.length+8*d->∀(key:ba) (after:Bool) (k:Nat) (r:Option (ba×ba)),key.length<60000->BS (cV t.a.es) k hd key after (cut key) false r->∀(h:aG) (nx:Nat),t.ok h nx->
 aA prog 318 [.ptr t.tb 0,hd.av,bR p,bR key,bQ after,.g .nilFunc] h nx (dr (Zn p r) h nx):=by
 intro d
 induction d with
 |zero=>intro hd p H hp;obtain⟨n,h1,_⟩:=H.ex;obtain⟨i,q1,q2⟩:=I.pl _ _ _ h1;rw[H.pre]at q1;omega
 |succ d ih=>
 intro hd p H hp key after k r hk X h nx o;have db:=o.lt;have anP:p.length<=16:=by obtain⟨n,h1,_⟩:=H.ex;obtain⟨i,q1,q2⟩:=I.pl _ _ _ h1;rw[H.pre]at q1;omega
 have Hk:¬(nx=nx+1):=ah;refine aA.pc 6 G5 func318 ?_;simp+decide-dsimp only[f318,go_sem,Hd.av,Hd.cells];have OH:=PZ key 0 hk ah;rw[Mm,j9]at OH;refine aZ OH ?_;simp+decide-dsimp only[go_sem,reduceAdd];generalize hA:aK (aK (aK h nx _) (nx+1) _) (nx+1) _=A;have SA:aH nx h A:=by rw[<-hA];exact jh
 have kA0:au A nx=some (.cells [int hd.ao,u64 hd.bk] 245):=by rw[<-hA,aj,ak Hk,aj,ak Hk,aj,aw rfl]
 have kA1:au A (nx+1)=some (.cells (zH (cut key) false) 489):=by rw[<-hA,aj,aw rfl]
 clear hA;refine cL _ _ (λmm s h' nx'=>∃(fm:ba) (fb:Bool),BS (cV t.a.es) mm hd key after fm fb r/\rW fm/\
  ao s 0= .ptr t.tb 0/\ao s 2=bR p/\ao s 3=bR key/\ao s 4=bQ after/\ao s 5= .g .nilFunc/\ao s 7= .ptr nx 0/\ao s 16= .ptr (nx+1) 0/\
  (aH nx h h'/\au h' nx=some (.cells [int hd.ao,u64 hd.bk] 245)/\au h' (nx+1)=some (.cells (zH fm fb) 489))/\nx+2<=nx') (n:=k) ?_ ?_
 .simp+decide-dsimp only[go_sem];exact⟨cut key,false,X,DW _,SA,kA0,kA1⟩
 clear X SA kA0 kA1;rintro mm s h' nx' ⟨fm,fb,X,hfm,s0,s2,s3,s4,s5,s7,IP,⟨S0,g0,g1⟩,l1⟩;have o':=o.aX (h':=h') (nx':=nx') (λb hb=>S0 b (o.dm hb)) ah;have n0:¬(nx=nx'):=ah;have n1:¬(nx+1=nx'):=ah;have n2:¬(nx'=nx+1):=ah;simp+decide-dsimp only[go_sem,s0,s5,s7,IP,g0,g1];rcases Ty X with⟨E,rfl⟩|⟨z,E,X2⟩
 .have c:=ahJ t h' nx' o' I hfm H E;simp only[slO,Option.getD_none,mA,Hd.av,Hd.cells]at c;refine bm c ?_;simp+decide-dsimp only[go_sem,reduceAdd];refine .dT ?_ (.Tl .bR .bR .cA .cA) rfl
  repeat' first|exact aH.refl|apply aH.fJ|(apply aH.set;rotate_left;omega)
  exact S0
 have c:=ahJ t h' nx' o' I hfm H E;simp only[slO,eK,qb,Hd.av,Hd.cells]at c;refine bm c ?_;obtain⟨rr,E2,F2⟩:=I.adt H fm fb;obtain⟨q1,q2,sn,g,n,j,q3,q4,q5,q6,q7⟩:=F2 z (E2.fun E).symm.symm;have R:=(I.lf _ _ _ q3 q4).1.r j q5;have ok:=I.ao _ _ _ q3 q4 j q5;rw[<-q6]at R ok;have hz9:=R.m.len;have alm:bo 342 [u64 (bv z.m 8:Nat),int z.m.length] (bR (nameOf z.m)):=by unfold nameOf;rw[<-Qg];exact ahE z.m z.m.length hz9
 have hnl:(nameOf z.m).length<=8:=by unfold nameOf;rw[ax];omega
 have Pn:p.length+(nameOf z.m).length<2^62:=ah;have wz:cF .i64 (z.m.length:Int)=(z.m.length:Int):=wrap_i64 ah ah;simp+decide-dsimp only[go_sem,G5,s3,reduceAdd];generalize hB:aK (aK h' nx' _) nx' _=B;have SB:aH nx h B:=by rw[<-hB];exact(S0.set ah).set ah
 have b0:au B nx=some (.cells [int hd.ao,u64 hd.bk] 245):=by rw[<-hB,aj,ak n0,aj,ak n0];exact g0
 have b1:au B (nx+1)=some (.cells (zH fm fb) 489):=by rw[<-hB,aj,ak n1,aj,ak n1];exact g1
 have b2:au B nx'=some (.cells z.cells 266):=by rw[<-hB,aj,aw rfl]
 clear hB;refine aZ OH ?_;simp+decide-dsimp only[go_sem,b2,S8 R.m (DW key),wz];generalize hq:nx'+1+Array.size _=nq;have rm:nx'+1<=nq:=ah;clear hq;refine aZ alm ?_;simp+decide-dsimp only[go_sem,b2];rcases X2 with⟨th,C,rfl⟩|⟨th,C,k',rfl,X2⟩|⟨th,r3,k3,X3,X2⟩
 .have vO:(nameOf z.m++z.rest).length<=24:=by have:=(ok.key th).2.1;rw[q7,ay,aq]at this;omega
  rw[aq]at vO;have Iz:(nameOf z.m).length+z.rest.length<2^62:=ah;have hw3:(p++nameOf z.m).length+z.rest.length<2^62:=by rw[aq];omega
  have fin:∀nf,nq<=nf->Pure h nx (λv=>v=Zn p (some (nameOf z.m++z.rest,z.val))) (.dN [bR (p++nameOf z.m++z.rest),bR z.val,bQ true,bQ false]) B nf:=λnf _=> .dT SB (.Tl .bR .bR .cA .cA) (by rw[ay];rfl);by_cases hm:z.m=cut key
  .have SI:=aM hm;by_cases hg:key<nameOf z.m++z.rest;.have hgl:=aU (cX hg);have Cb:decide (nameOf z.m++z.rest=key)=false:=aU (λe=>by rw[e]at hg;exact cw hg);simp+decide-dsimp only[go_sem,G5,s2,s3,b2,th,SI,hgl,Cb,jv Iz,jv Pn,jv hw3];exact fin _ ah
   .have he:nameOf z.m++z.rest=key/\after=false:=(C.resolve_left (λq=>q hm)).resolve_left hg;have hed:=aM he.1;simp+decide-dsimp only[go_sem,G5,s2,s3,s4,b2,th,SI,hed,he.2,jv Iz,jv Pn,jv hw3];exact fin _ ah
  .have SI:=aU hm;simp+decide-dsimp only[go_sem,G5,s2,b2,th,SI,jv Pn,jv hw3];exact fin _ ah
 .have hm:z.m=cut key:=cS λq=>C (.inl q);have hg:¬key<nameOf z.m++z.rest:=λq=>C (.inr (.inl q));have vO:(nameOf z.m++z.rest).length<=24:=by have:=(ok.key th).2.1;rw[q7,ay,aq]at this;omega
  rw[aq]at vO;have Iz:(nameOf z.m).length+z.rest.length<2^62:=ah;have SI:=aM hm;by_cases he:nameOf z.m++z.rest=key
  .have ha:after=true:=by
    cases after with
    |true=>rfl
    |false=>exact absurd (.inr (.inr ⟨he,rfl⟩)) C
   have hed:=aM he;subst ha;simp+decide-dsimp only[go_sem,s0,s2,s3,s4,s5,s7,IP,b0,b1,b2,th,SI,hed,jv Iz,reduceAdd];exact⟨k',aW _,z.m,true,X2,R.m,⟨by(repeat' first|exact aH.refl|apply aH.fJ|(apply aH.set;rotate_left;omega));exact SB,rfl⟩,ah⟩
  .have hed:=aU he;have hgl:decide (nameOf z.m++z.rest<key)=true:=aM (by
    rcases jD (nameOf z.m++z.rest) key with q|q|q;.exact q
    .exact absurd q he
    .exact absurd q hg)
   simp+decide-dsimp only[go_sem,s0,s2,s3,s4,s5,s7,IP,b0,b1,b2,th,SI,hed,hgl,jv Iz,reduceAdd];exact⟨k',aW _,z.m,true,X2,R.m,⟨by(repeat' first|exact aH.refl|apply aH.fJ|(apply aH.set;rotate_left;omega));exact SB,rfl⟩,ah⟩
 have h9:=(R.d th).1;have l8:(nameOf z.m).length=8:=by unfold nameOf;rw[ax,h9];rfl
 have Hl:=I.abg q3 q4 q5 (by rw[<-q6];exact th);rw[<-q6,q7]at Hl;have oB:=o.aX (h':=B) (nx':=nq) (λb hb=>SB b (o.dm hb)) ah;by_cases hm:z.m=cut key
 case' pos=>
  have SI:=aM hm;have hk8:8<=key.length:=by rw[hm,kM]at h9;omega
  have sx:eS prog 9 (bR key) (some (int 8)) none=some (bR (key.drop 8)):=rf (i:=8) hk8;have wH:wx key z=key.drop 8:=aw hm;have Ub:w9 key after z=after:=aw hm;have c:=ih z.link (p++nameOf z.m) Hl (by rw[aq,l8];omega) (wx key z) (w9 key after z) k3 r3 (by rw[wH,aC];omega) X3 B nq oB;rw[wH,Ub,Hd.av,Hd.cells]at c;simp+decide-dsimp only[go_sem,s0,s2,s3,s4,s5,b2,th,SI,sx,jv Pn]
 case' neg=>have SI:=aU hm;have wH:wx key z=[]:=ak hm;have Ub:w9 key after z=false:=ak hm;have c:=ih z.link (p++nameOf z.m) Hl (by rw[aq,l8];omega) (wx key z) (w9 key after z) k3 r3 (by rw[wH];show 0<_;omega) X3 B nq oB;rw[wH,Ub,Hd.av,Hd.cells]at c;simp+decide-dsimp only[go_sem,s0,s2,s5,b2,th,SI,jv Pn]
 all_goals
  refine bm c ?_;rcases X2 with⟨zz,rfl,rfl⟩|⟨rfl,k'',rfl,X2⟩
  .simp+decide-dsimp only[go_sem,Zn];refine .dT SB (.Tl .bR .bR .cA .cA) ?_;rw[ay]
  .simp+decide-dsimp only[go_sem,Zn,s0,s2,s3,s4,s5,s7,IP,b0,b1,b2,reduceAdd];exact⟨k'',aW _,z.m,true,X2,R.m,⟨by(repeat' first|exact aH.refl|apply aH.fJ|(apply aH.set;rotate_left;omega));exact SB,rfl⟩,ah⟩
theorem agr(t:Mt){pre lo:Nat->ba}{fC:Nat->Nat}(I:MI Pk (cV t.a.es) t.aO pre lo fC par rk iJ){after:Bool}{r:Option (ba×ba)}(hk:key.length<60000)(X:BS (cV t.a.es) k t.aO key after (cut key) false r)(h:aG)(nx:Nat)(o:t.ok h nx):
 aA prog 304 [.ptr t.tb 0,bR key,bQ after,.g .nilFunc] h nx (dr (Zn [] r) h nx):=by
 refine aA.pc 4 T0 func304 ?_;simp+decide-dsimp only[f304,go_sem];refine bm (SZ t _ _ o) ?_;simp+decide-dsimp only[go_sem,o.tr];have c:=akw t I 3 t.aO [] I.head bN key after k r hk X h nx o;rw[Hd.av,Hd.cells]at c;refine bm c ?_;cases r with
 |none=>simp+decide-dsimp only[go_sem,Zn];exact .dT .refl (.Tl .bR .bR .cA .cA) rfl
 |some z=>simp+decide-dsimp only[go_sem,Zn];exact .dT .refl (.Tl .bR .bR .cA .cA) rfl
theorem akV(t:Mt)(p:bj)(h:aG)(nx:Nat)(B:MW t p h nx){pre lo:Nat->ba}{fC:Nat->Nat}(I:MI Pk (cV t.a.es) t.aO pre lo fC par rk (λ_=>False)):
 aA prog 298 [.ptr t.tb 0] h nx (dr (ze t.all) h nx):=by
 have o:=B.tk;obtain⟨A,_,bP,h24⟩:=MI.zP o.ok.rK I;have alI:=B.vW;refine aA.pc 1 T0 func298 ?_;simp+decide-dsimp only[f298,go_sem];refine bm (SZ t _ _ o) ?_;simp+decide-dsimp only[go_sem,o.tr];refine cL _ _ (λmm s h' nx'=>∃(key:ba) (after:Bool) (L0 L1:List Pr) (v:AV),Pp (cV t.a.es) t.aO key after L1/\t.all=L0++L1/\mm=L1.length/\key.length<=24/\
  ao s 0= .ptr t.tb 0/\ao s 3=v/\ao s 4=bR key/\ao s 5=bQ after/\Own Pr.cells 88 2 h' v L0/\In nx nx' v/\aH nx h h'/\nx<=nx') (n:=t.all.length) ?_ ?_
 .simp+decide-dsimp only[go_sem];exact⟨[],false,[],t.all,_,A,rfl,rfl,bN,rfl,rfl,rfl,.inl ⟨rfl,rfl⟩,λb hb=>(by cases hb),aH.refl⟩
 rintro mm s h' nx' ⟨key,after,L0,L1,v,A,hL,rfl,hk,s0,s3,s4,s5,ho,lB,S0,l1⟩;have o':=o.aX (h':=h') (nx':=nx') (λb hb=>S0 b (o.dm hb)) ah;simp+decide-dsimp only[go_sem,s0,s4,s5];cases A with
 |nil X=>refine bm (agr t I ah X h' nx' o') ?_;simp+decide-dsimp only[go_sem,Zn,s3];rw[hL,cD];exact .of S0 (ho.fz lB EM)
 |@cons _ _ _ z L X A=>
  refine bm (agr t I ah X h' nx' o') ?_;simp+decide-dsimp only[go_sem,Zn,ch,s3,cr,cB,reduceAdd];have hLl:L0.length+1<65536:=by have:=fN List.length hL;rw[aq]at this;simp only[bD]at this;omega
  refine km (c:=Pr.cells) (ho.aX λq e'=>?_) Fb (λ_=>rfl) hLl z ?_;.have:=lB q e';rw[aj,ak ah]
  intro v' h2 dU l2 p1 p2 p3;simp+decide-dsimp only[go_sem,s0,s3,s4,s5];have hz:z.1.length<=24:=h24 _ (bu.2 ⟨z,by rw[hL];simp,rfl⟩);refine⟨L.length,aW _,z.1,true,L0++[z],L,v',A,by rw[hL,ay];rfl,rfl,hz,rfl,rfl,rfl,p1,λq e'=>?_,λb hb=>?_,ah⟩
  .rcases p2 q e' with e2|e2;.have:=lB q e2;omega
   .omega
  .rw[p3 b ah (λe'=>by have:=lB b e';omega),aj,ak ah];exact S0 b hb
end
end bC
end Go.Proofs.YtonnifoeokagjaaGreat
