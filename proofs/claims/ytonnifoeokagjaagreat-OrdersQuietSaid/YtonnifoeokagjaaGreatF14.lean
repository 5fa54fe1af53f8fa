/- The theorem quiet_holds of OrdersQuiet: part 14 of its proof; no conditions. -/
import Derived.Test.YtonnifoeokagjaaGreatF13
namespace Go.Proofs.YtonnifoeokagjaaGreat
set_option linter.all false
set_option maxRecDepth 8000
open Go Go.RowKit
open Option renaming some->J,none->B
open Bool renaming true->M,false->R
open List renaming length->O
open Tryz
open Nat(reduceAdd reduceMul)
namespace br
noncomputable section
variable{Pk:aY->Prop}{a b' c':u}{aO:Hd}{fb:Bool}{h:aE}{iL:Nat->Prop}{k Y:Nat}{key:aY}{lo:Nat->aY}{par rk:Nat->Nat}{σ:jJ}
def Jx:=RB [(5,[MO [0,1,2] 3,([4],[1],J 5),RX]),(15,[MO z7 8,MO [] 9,MO [] 10,MO [] 11,RX])]
def srV(p:aY):Option (aY×aY)->u
 |none=> .dY [cg [],cg [],bW R,bW R]
 |some hd=> .dY [cg (p++hd.1),cg hd.2,bW M,bW R]
def Fz.VG{b c d a' d'}(W:Fz h Y a a')(F:Fz h Y b b')(h3:Fz h Y c c')(h4:Fz h Y d d'):Fz h Y (.dY [a,b,c,d]) (.dY [a',b',c',d']):= .dY (.cons W (.cons F (.cons h3 (.cons h4 .nil))))
def Ug{h fm after}{r:Option (aY×aY)}(x:Dj σ k h key after fm fb r):
 (Cm σ h fm fb B/\r=B)\/∃s,Cm σ h fm fb (J s)/\((s.deep=R/\SrC key after s/\r=J (nameOf s.m++s.rest,s.val))\/(s.deep=R/\¬SrC key after s/\∃k',k=k'+1/\Dj σ k' h key after s.m M r)\/
  (s.deep=M/\∃r3 k',Dj σ k' s.link (yr key s) (zx key after s) (cut (yr key s)) R r3/\((∃hd,r3=J hd/\r=J (nameOf s.m++hd.1,hd.2))\/(r3=B/\∃k'',k=k''+1/\Dj σ k'' h key after s.m M r)))):=by
 cases x with
 |none e=>exact .inl ⟨e,Z⟩
 |jA e z c=>exact .inr ⟨_,e,.inl ⟨z,c,Z⟩⟩
 |Jz e z c n=>exact .inr ⟨_,e,.inr (.inl ⟨z,c,_,Z,n⟩)⟩
 |Jk e z d=>exact .inr ⟨_,e,FF ⟨z,_,_,d,.inl ⟨_,Z,Z⟩⟩⟩
 |Bw e z d n=>exact .inr ⟨_,e,FF ⟨z,_,_,d,.inr ⟨Z,_,Z,n⟩⟩⟩
set_option maxHeartbeats 4000000 in
def aq9(t:Mt){pre eo}{ex:aY->Prop}(I:MI Pk (ct t.a.es) aO pre lo eo par rk iL ex):
 ∀(d:Nat) (z:Hd) (p:aY),Head (ct t.a.es) pre lo z p->24<=O p+8*d->∀(key:aY) (after:Bool) (k:Nat) (r:Option (aY×aY)),O key<60000->Dj (ct t.a.es) k z key after (cut key) R r->∀(h:aE) (Y:Nat),t.ok h Y->
 UP 318 [.ptr t.tb 0,z.av,cg p,cg key,bW after,.g .nilFunc] h Y (dG (srV p r) h Y):=by
 intro d
 induction d with
 |zero=>intro z p hi hp;have⟨n,W,_⟩:=hi.ex;have⟨i,q1,q2⟩:=I.pl _ _ _ W;rw[hi.pre]at q1;omega
 |succ d ih=>
 intro z p hi hp key after k r hk ao h Y o;have dc:=o.lt;have ar1:O p<=16:=by have⟨n,W,_⟩:=hi.ex;have⟨i,q1,q2⟩:=I.pl _ _ _ W;rw[hi.pre]at q1;omega
 have Jv:¬(Y=Y+1):=U;refine az.pc 6 Jx func318 ?_;refine J7 f318.eq_1 @Hd.av.eq_1 @Hd.cells.eq_1 ?_;have Sg:=U1 key 0 hk U;rw[N0,nc]at Sg;refine AJ Sg ?_;generalize hA:aI (aI (aI h Y _) (Y+1) _) (Y+1) _=hc;have SA:aG Y h hc:=hA▸gU
 have kA0:=U9 hA (WV Tb Jv) Jv
 have kA1:=TZ hA
 refine cI _ _ (λmm s Q E=>∃fm fb,Dj (ct t.a.es) mm z key after fm fb r/\tv fm/\
  X s 0= .ptr t.tb 0/\X s 2=cg p/\X s 3=cg key/\X s 4=bW after/\X s 5= .g .nilFunc/\X s 7= .ptr Y 0/\X s 16= .ptr (Y+1) 0/\
  (aG Y h Q/\N Q Y=some (.cells [int z.X,u64 z.bo] 245)/\N Q (Y+1)=some (.cells (BB fm fb) 489))/\Y+2<=E) (n:=k) ?_ ?_
 .refine QZ ?_;exact⟨cut key,R,ao,GS _,SA,kA0,kA1⟩
 rintro mm s Q E ⟨fm,fb,ao,hfm,s0,s2,s3,s4,s5,s7,Pf,⟨S0,g0,g1⟩,l1⟩;have o':=o.aW (Q:=Q) (E:=E) (λb D=>S0 b (o.dL D)) U;have n0:¬(Y=E):=U;have n1:¬(Y+1=E):=U;have n2:¬(E=Y+1):=U;refine RC s0 s5 s7 Pf g0 g1 ?_;obtain⟨nx',rfl⟩|⟨hd,nx',X2⟩:=Ug ao
 .have c:=akO t Q E o' I hfm hi nx';simp only[slO,Option.getD_none,oa,Hd.av,Hd.cells]at c;refine Av c ?_;refine .eE ?_ (.VG .cg .cg .cP .cP) Z
  exact aug
 have c:=akO t Q E o' I hfm hi nx';simp only[slO,fI,rA,Hd.av,Hd.cells]at c;refine bc c ?_;have⟨rr,E2,F2⟩:=I.ags hi fm fb;have⟨q1,q2,sn,g,n,j,q3,q4,q5,q6,q7⟩:=F2 hd (E2.fun nx').symm.symm;have zxQ:=(I.lf _ _ _ q3 q4).1.r j q5;have ok:=I.X _ _ _ q3 q4 j q5;rw[<-q6]at zxQ ok;have hz9:=zxQ.m.len;have aoy:bz 342 [u64 (bv hd.m 8:Nat),int (O hd.m)] (cg (nameOf hd.m)):=by unfold nameOf;rw[<-WL];exact anh hd.m (O hd.m) hz9
 have hnl:O (nameOf hd.m)<=8:=by unfold nameOf;rw[ax];omega
 have QD:O p+O (nameOf hd.m)<2^62:=U;have wz:cO .i64 (O hd.m:Int)=(O hd.m:Int):=wrap_i64 U U;refine Y8 Jx.eq_1 s3 ?_;generalize hB:aI (aI Q E _) E _=zyQ;have SB:aG Y h zyQ:=by rw[<-hB];exact(S0.set U).set U
 have b0:=U9 hB (WV g0 n0) n0
 have b1:=U9 hB (WV g1 n1) n1
 have b2:=TZ hB
 refine ba Sg ?_;simp+decide-dsimp only[go_sem,b2,Wv zxQ.m (GS key),wz];generalize hq:E+1+Array.size _=nq;have qf:E+1<=nq:=U;refine ba aoy ?_;refine Xf b2 ?_;obtain⟨tO,C,rfl⟩|⟨tO,C,k',rfl,X2⟩|⟨tO,r3,k3,X3,X2⟩:=X2
 .have xY:O (nameOf hd.m++hd.rest)<=24:=by have:=(ok.key tO).2.1;rw[q7,aA,aq]at this;omega
  rw[aq]at xY;have Lw:O (nameOf hd.m)+O hd.rest<2^62:=U;have hw3:O (p++nameOf hd.m)+O hd.rest<2^62:=Es @aq
  have fin:∀nf,nq<=nf->Pure h Y (λv=>v=srV p (J (nameOf hd.m++hd.rest,hd.val))) (.dY [cg (p++nameOf hd.m++hd.rest),cg hd.val,bW M,bW R]) zyQ nf:=λnf _=> .eE SB (.VG .cg .cg .cP .cP) (by rw[aA];rfl);by_cases hm:hd.m=cut key
  .have VN:=aN hm;by_cases hg:key<nameOf hd.m++hd.rest;.have hgl:=aU (dA hg);have DF:decide (nameOf hd.m++hd.rest=key)=R:=aU (λe=>by rw[e]at hg;exact bU hg);simp+decide-dsimp only[go_sem,Jx,s2,s3,b2,tO,VN,hgl,DF,kG Lw,kG QD,kG hw3];exact fin _ U
   .have V:nameOf hd.m++hd.rest=key/\after=R:=(C.resolve_left (λq=>q hm)).resolve_left hg;have hed:=aN V.1;simp+decide-dsimp only[go_sem,Jx,s2,s3,s4,b2,tO,VN,hed,V.2,kG Lw,kG QD,kG hw3];exact fin _ U
  .have VN:=aU hm;simp+decide-dsimp only[go_sem,Jx,s2,b2,tO,VN,kG QD,kG hw3];exact fin _ U
 .have hm:hd.m=cut key:=cJ λq=>C (.inl q);have hg:¬key<nameOf hd.m++hd.rest:=λq=>C (.inr (.inl q));have xY:O (nameOf hd.m++hd.rest)<=24:=by have:=(ok.key tO).2.1;rw[q7,aA,aq]at this;omega
  rw[aq]at xY;have Lw:O (nameOf hd.m)+O hd.rest<2^62:=U;have VN:=aN hm;by_cases V:nameOf hd.m++hd.rest=key
  .have ha:after=M:=by
    cases after with
    |true=>rfl
    |false=>exact absurd (FF ⟨V,Z⟩) C
   have hed:=aN V;subst ha;simp+decide-dsimp only[go_sem,s0,s2,s3,s4,s5,s7,Pf,b0,b1,b2,tO,VN,hed,kG Lw,reduceAdd];exact auv
  .have hed:=aU V;have hgl:decide (nameOf hd.m++hd.rest<key)=M:=aN (by
    obtain q|q|q:=kC (nameOf hd.m++hd.rest) key;.exact q
    .exact absurd q V
    .exact absurd q hg)
   simp+decide-dsimp only[go_sem,s0,s2,s3,s4,s5,s7,Pf,b0,b1,b2,tO,VN,hed,hgl,kG Lw,reduceAdd];exact auv
 have h9:=(zxQ.d tO).1;have l8:O (nameOf hd.m)=8:=by unfold nameOf;rw[ax,h9];rfl
 have Hl:=I.ad9 q3 q4 q5 (q6▸tO);rw[<-q6,q7]at Hl;have oB:=o.aW (Q:=zyQ) (E:=nq) (λb D=>SB b (o.dL D)) U;by_cases hm:hd.m=cut key
 case' pos=>
  have VN:=aN hm;have hk8:8<=O key:=by rw[hm,mq]at h9;omega
  have sx:fW prog 9 (cg key) (J (int 8)) B=J (cg (key.drop 8)):=te (i:=8) hk8;have vy:yr key hd=key.drop 8:=au hm;have Lt:zx key after hd=after:=au hm;have c:=ih hd.link (p++nameOf hd.m) Hl (by rw[aq,l8];omega) (yr key hd) (zx key after hd) k3 r3 (by rw[vy,aC];omega) X3 zyQ nq oB;rw[vy,Lt,Hd.av,Hd.cells]at c;simp+decide-dsimp only[go_sem,s0,s2,s3,s4,s5,b2,tO,VN,sx,kG QD]
 case' neg=>have VN:=aU hm;have vy:yr key hd=[]:=ak hm;have Lt:zx key after hd=R:=ak hm;have c:=ih hd.link (p++nameOf hd.m) Hl (by rw[aq,l8];omega) (yr key hd) (zx key after hd) k3 r3 (by rw[vy];show 0<_;omega) X3 zyQ nq oB;rw[vy,Lt,Hd.av,Hd.cells]at c;simp+decide-dsimp only[go_sem,s0,s2,s5,b2,tO,VN,kG QD]
 all_goals
  refine bc c ?_;rcases X2 with⟨zz,rfl,rfl⟩|⟨rfl,k'',rfl,X2⟩
  .simp+decide-dsimp only[go_sem,srV];refine .eE SB (.VG .cg .cg .cP .cP) ?_;rw[aA]
  .refine asC @srV.eq_1 s0 s2 s3 s4 s5 s7 Pf b0 b1 b2 ?_;exact⟨k'',aZ _,hd.m,M,X2,zxQ.m,⟨by(repeat' first|exact aG.refl|apply aG.fo|(apply aG.set;rotate_left;omega));exact SB,Z⟩,U⟩
def amH(t:Mt){pre eo}{ex:aY->Prop}(I:MI Pk (ct t.a.es) t.aO pre lo eo par rk iL ex){after}{r:Option (aY×aY)}(hk:O key<60000)(ao:Dj (ct t.a.es) k t.aO key after (cut key) R r)(h Y)(o:t.ok h Y):
 UP 304 [.ptr t.tb 0,cg key,bW after,.g .nilFunc] h Y (dG (srV [] r) h Y):=by
 refine az.pc 4 T0 func304 ?_;refine Xf f304.eq_1 ?_;refine bc (MN t _ _ o) ?_;refine Xf o.tr ?_;have c:=aq9 t I 3 t.aO [] I.head bS key after k r hk ao h Y o;rw[Hd.av,Hd.cells]at c;refine bc c ?_;cases r with
 |none=>refine Xf @srV.eq_1 ?_;exact .eE .refl (.VG .cg .cg .cP .cP) Z
 |some hd=>simp+decide-dsimp only[go_sem,srV];exact .eE .refl (.VG .cg .cg .cP .cP) Z
def aqq(t p h Y)(zyQ:MW t p h Y){pre eo}(I:MI Pk (ct t.a.es) t.aO pre lo eo par rk (λ_=>False) Cd):
 UP 298 [.ptr t.tb 0] h Y (dG (yP t.all) h Y):=by
 have o:=zyQ.tk;have⟨hc,_,cf,h24⟩:=MI.Bg o.ok.ng I;have aoJ:=zyQ.yG;refine az.pc 1 T0 func298 ?_;refine Xf f298.eq_1 ?_;refine bc (MN t _ _ o) ?_;refine Xf o.tr ?_;refine cI _ _ (λmm s Q E=>∃key after L0 L1 v,Ss (ct t.a.es) t.aO key after L1/\t.all=L0++L1/\mm=O L1/\O key<=24/\
  X s 0= .ptr t.tb 0/\X s 3=v/\X s 4=cg key/\X s 5=bW after/\Own Pr.cells 88 2 Q v L0/\In Y E v/\aG Y h Q/\Y<=E) (n:=O t.all) ?_ ?_
 .refine QZ ?_;exact⟨[],R,[],t.all,_,hc,Z,Z,bS,Z,Z,Z,.inl ⟨Z,Z⟩,λb D=>(by cases D),aG.refl⟩
 rintro mm s Q E ⟨key,after,L0,L1,v,hc,hL,rfl,hk,s0,s3,s4,s5,ho,mO,S0,l1⟩;have o':=o.aW (Q:=Q) (E:=E) (λb D=>S0 b (o.dL D)) U;refine J7 s0 s4 s5 ?_;cases hc with
 |nil ao=>refine bc (amH t I U ao Q E o') ?_;refine Y8 @srV.eq_1 s3 ?_;rw[hL,cy];exact .of S0 (ho.fz mO H7)
 |@cons _ _ _ hd hx ao hc=>
  refine bc (amH t I U ao Q E o') ?_;simp+decide-dsimp only[go_sem,srV,cz,s3,cL,cV,reduceAdd];have hLl:L0.length+1<65536:=by have:=ff List.length hL;rw[aq]at this;simp only[bD]at this;omega
  refine lN (c:=Pr.cells) (ho.aW λq e'=>?_) vK (λ_=>rfl) hLl hd ?_;.have:=mO q e';rw[Xg]
  intro v' F dR l2 p1 p2 p3;refine L6 s0 s3 s4 s5 ?_;have hz:O hd.1<=24:=h24 _ (bg.2 ⟨hd,by rw[hL];simp,Z⟩);refine⟨O hx,aZ _,hd.1,M,L0++[hd],hx,v',hc,by rw[hL,aA];rfl,Z,hz,Z,Z,Z,p1,λq e'=>?_,λb D=>?_,U⟩
  .obtain e2|e2:=p2 q e';.have:=mO q e2;omega
   .omega
  .rw[p3 b U (λe'=>by have:=mO b e';omega),Xg];exact S0 b D
end
end br
end Go.Proofs.YtonnifoeokagjaaGreat
