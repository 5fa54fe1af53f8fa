/- The theorem quiet_holds of OrdersQuiet: part 7 of its proof; no conditions. -/
import Derived.Test.YtonnifoeokagjaaGreatF06
namespace Go.Proofs.YtonnifoeokagjaaGreat
set_option linter.all false
set_option maxRecDepth 8000
open Go Go.RowKit
open Option renaming some->J,none->B
open Bool renaming true->M,false->R
open List renaming length->O
open Tryz
open Nat(reduceAdd reduceMul)
namespace br
noncomputable section
variable{a:u}{h Q:aE}{Y E:Nat}
def Pure.eE{r r' v}(W:aG Y h Q)(F:Fz Q Y v r')(e:r'=r):Pure h Y (λv=>v=r) v Q E:=⟨W,r',F,e⟩
def tF.mC{b}(W:tF Y a)(F:tF Y b):tF Y (.dY [a,b]):=⟨W,F,trivial⟩
def anF(a b):bz 127 [cg a,cg b] (int (xJ a b)):=by refine bz.ac 2 T0 func127 λh Y=>?_;refine Xf f127.eq_1 ?_;exact .of .refl .cP
def arc(a b):bz 108 [cg a,cg b] (int (xJ a b)):=by refine bz.ac 2 T0 func108 λh Y=>?_;refine Xf f108.eq_1 ?_;refine AJ (anF _ _) ?_;exact .of .refl .cP
def XV(a b):bz 82 [cg a,cg b] (int (xJ a b)):=by refine bz.ac 2 T0 func82 λh Y=>?_;refine Xf f82.eq_1 ?_;refine AJ (arc _ _) ?_;exact .of .refl .cP
structure Nd where
 ay:Bool
 aJ:List aY
 gZ:List aY
 bu:List Hd
 cQ:aY
 bd:Bool
 next:Hd
 deriving DecidableEq,Inhabited
def Nd.cells(n:Nd):List u:=[bW n.ay,strs n.aJ,strs n.gZ,qF n.bu,cg n.cQ,bW n.bd,int n.next.X,u64 n.next.bo]
def Nd.av(n:Nd):u:= .agg n.cells
def P7(n:Nd)(k):bz 244 [n.av,cg k] (bW (!n.bd||decide (k<n.cQ))):=by
 refine bz.ac 2 T0 func244 λh Y=>?_;have⟨ay,aJ,gZ,bu,cQ,bd,next⟩:=n;cases bd;.refine J7 f244.eq_1 @Nd.av.eq_1 @Nd.cells.eq_1 ?_;exact .of (aG.refl.set (an _)) .cP
 .refine J7 f244.eq_1 @Nd.av.eq_1 @Nd.cells.eq_1 ?_;refine AJ (XV _ _) ?_;exact .of (aG.refl.set (an _)) .cP
def place(l:List aY)(k:aY):Nat:=O (l.takeWhile (λx=>decide (x<k)))
def jD:∀(l:List aY) (k:aY),place l k<=O l
 |[],_=>an _
 |x::l,k=>by
  unfold place;rw[mP];split;.have:=jD l k;unfold place at this;simp;omega
  .simp
def wR:∀(l:List aY) (k:aY) (i:Nat),i<place l k->l.getD i []<k
 |[],_,i,h=>by simp[place]at h
 |x::l,k,i,h=>by
  unfold place at h;rw[mP]at h;split at h
  .rename_i L;cases i with
   |zero=>simpa using L
   |succ i=>simpa using wR l k i (by unfold place;simpa using h)
  .simp at h
def vZ:∀(l:List aY) (k:aY),place l k<O l->¬l.getD (place l k) []<k
 |[],_,h=>by simp[place]at h
 |x::l,k,h=>by
  unfold place at h⊢;rw[mP]at h⊢;split at h;.rename_i L;rw[au L];have:=vZ l k (by unfold place;simpa using h);simpa[place]using this
  .rename_i L;rw[ak L];simpa using L
def Nd.has(n:Nd)(k:aY):Bool:=decide (place n.aJ k<O n.aJ)&&decide (n.aJ.getD (place n.aJ k) []=k)
def agn:=RB [(3,[MO z14 15,MO [] 16,RX])]
def Rv(n:Nd)(k)(D:O n.aJ<65536):bz 238 [n.av,cg k] (.dY [int (place n.aJ k),bW (n.has k)]):=by
 refine bz.ac 2 agn func238 λh Y=>?_;simp+decide-dsimp only[f238,go_sem,Nd.av];refine cI _ _ (λm s Q E=>∃i,i<=place n.aJ k/\m=place n.aJ k-i/\X s 1=cg k/\X s 2= .ptr Y 0/\X s 4=int i/\Q=aI h Y (.cells n.cells 247)/\E=Y+1) (n:=place n.aJ k) ?_ ?_;.refine QZ ?_;exact⟨0,aQ _,bR⟩
 rintro m s Q E ⟨i,H,rfl,s1,s2,s4,rfl,rfl⟩;have hle:=jD n.aJ k;by_cases K:i<O n.aJ
 .refine PV s1 s2 s4 @Nd.cells.eq_1 K ?_;refine ba (XV _ _) ?_;by_cases A:n.aJ.getD i []<k
  .refine PV s1 s2 s4 A (U:i+1<9223372036854775808) ?_;have:i<place n.aJ k:=by
    rcases bB i (place n.aJ k)with h|h;.exact h
    .have:i=place n.aJ k:=U;subst this;exact absurd A (vZ _ _ K)
   exact⟨_,(U:place n.aJ k-(i+1)<_),i+1,this,bR⟩
  .have hip:i=place n.aJ k:=by
    rcases bB i (place n.aJ k)with h|h;.exact absurd (wR _ _ _ h) A
    .omega
   refine RC s1 s2 s4 K A agn.eq_1 ?_;exact avk
 .have hip:i=place n.aJ k:=U;refine PV s2 s4 K agn.eq_1 @Nd.cells.eq_1 ?_;exact avk
variable{hc zyQ:List u}{b cap i:Nat}
def apr(l:List Hd)(K:O l<65536)(h Y):UP 254 [qF l] h Y λv Q E=>aG Y h Q/\In Y E v/\Own Hd.cells 245 2 Q v l:=by
 by_cases hn:(O l==0)=R
 .refine az.ac 1 T0 func254 ?_
  refine PV f254.eq_1 hn K (Mf hn:¬(O l<=0)) (λo e=>by rw[cL,Sr,cV,iq,aT,qR]:∀o e,dt (aI h Y (.cells o e)) Y 0 0=J []) ?_;refine pO λcap gs A hg=>?_;refine QZ ?_;exact⟨(aG.refl.set (an _)).set (bG _),.sl (bG _) (aZ _),.inr ⟨_,cap,_,Z,iA,A,by simp only[aq,bh,Pb];exact hg,
   by rw[aD (by rw[Pb];exact an _),aH (by rw[Pb];exact an _)]⟩⟩
 .have:l=[]:=by cases l with
   |nil=>rfl
   |cons x l=>exact absurd Z hn
  subst this;refine .empty ?_ ?_;.refine az.ac 1 T0 func254 (Xf f254.eq_1 ?_);exact⟨.refl,.nil,.inl ⟨Z,Z⟩⟩
  .refine az.ac 1 T0 func254 (Xf f254.eq_1 ?_);exact aui
def agU:=RB [(5,[MO z5 6,MO [] 7,RX])]
def aqt(l:List Hd)(K:O l<65536)(v)(i:Nat)(H:i<O l)(h Y)(ho:Own Hd.cells 245 2 h v l)(mO:In 0 Y v):
 UP 368 [v,int i,int (i+1:Nat)] h Y λv' Q E=>Frame Y v h Q/\cu v'=cu v/\Own Hd.cells 245 2 Q v' (l.eraseIdx i):=by
 rcases ho with⟨rfl,rfl⟩|⟨b,cap,hc,rfl,hA,nG,cf,eJ⟩;.simp at H
 refine az.ac 3 agU func368 ?_;have W:i+1<=O l:=H;have F:i<=i+1:=bG i;have h3:O l<=O l:=an _;have h4:¬((i:Int)=((i+1:Nat):Int)):=U;have h5:i<=cap:=U;have dt:br.dt h b (if cap=i+1 then 0 else(i+1)*2) ((O l-(i+1))*2)=J ((l.drop (i+1)).flatMap Hd.cells):=by
  have hz:∀x,O (Hd.cells x)=2:=λ_=>rfl;have e1:(hc.drop ((i+1)*2)).take ((O l-(i+1))*2)=(l.drop (i+1)).flatMap Hd.cells:=by rw[<-fA hz,<-eJ,gz,<-nN]
  rw[cL,hA,cV];have Hj:=aM 2 (show i+1<=cap from U);have TP:=aM 2 (show(i+1)+(O l-(i+1))<=cap from U);exact atE
 have hz:∀x,O (Hd.cells x)=2:=λ_=>rfl;have hp:eG (i*2) hc ((l.drop (i+1)).flatMap Hd.cells)=J (hc.take (i*2)++(l.drop (i+1)).flatMap Hd.cells++hc.drop (i*2+(O l-(i+1))*2)):=by have e:=cj hz (l.drop (i+1));rw[aC]at e;rw[cG,e];rw[e,cf];have:i+(O l-(i+1))<=cap:=U;have:=aM 2 this;rw[bC]at this;exact this
 have vN:l.eraseIdx i=l.take i++l.drop (i+1):=ir l i;have EV:O (l.eraseIdx i)=i+(O l-(i+1)):=by rw[vN];simp;omega
 have ht:(l.take i).flatMap Hd.cells=hc.take (i*2):=by rw[<-fY hz,<-eJ,bI,b9 (aM _ (eC H))]
 by_cases h0:(O l-(i+1)==0)=R
 .have h7:i+(O l-(i+1))<=cap:=U;have h9:¬(cap=i+(O l-(i+1))):=U;have Ux:O l-(i+(O l-(i+1)))=1:=U;have Hj:=aM 2 (show i+(O l-(i+1))+1<=cap from U);have xL:(hc.take (i*2)++(l.drop (i+1)).flatMap Hd.cells++hc.drop (i*2+(O l-(i+1))*2)).length=cap*2:=by simp only[aq,ax,aC,cj hz,cf];omega
  have Ei:eG ((i+(O l-(i+1)))*2) (hc.take (i*2)++(l.drop (i+1)).flatMap Hd.cells++hc.drop (i*2+(O l-(i+1))*2)) [int 0,u64 0]=J _:=cG _ _ _ (by rw[xL];show _+2<=_;omega);simp+decide-dsimp only[f368,go_sem,agU,h0,W,F,h4,h5,(U:O l-(i+1)<65536),h7,(U:i+(O l-(i+1))<=O l),h9,Ux,nG,dt,hA,hp,Ei];exact atg
 .have qX:O l-(i+1)=0:=by simpa using h0
  have Hj:=aM 2 (show i+1<=cap from U);have EI:br.dt h b (if cap=i+1 then 0 else(i+1)*2) 0=J []:=by have:=dt;rw[qX,fJ]at this;rw[this,aX U];rfl
  simp+decide-dsimp only[f368,go_sem,agU,qX,W,F,h4,h5,(U:i<=O l),(U:¬(cap=i)),(U:O l-i=1),nG,EI,hA,(cG _ _ _ (by rw[cf];show _+2<=_;omega):eG (i*2) hc [int 0,u64 0]=J _)];exact atl
def L8:=RB [(11,[MO z7 8,RX]),(15,[MO z7 8,RX])]
def Sa(h:aE)(Y:Nat)(v:u)(l:List Hd)(v':u)(Q:aE)(E:Nat):Prop:=Frame Y v h Q/\(∀b,cu v'=J b->cu v=J b\/(Y<=b/\b<E))/\Own Hd.cells 245 2 Q v' l
def sZ{l:List Hd}{x}(H:i<=O l)(eJ:hc.take (O l*2)=l.flatMap Hd.cells)(g1:O l+1<=cap)(g2:O zyQ=cap*2)(g3:zyQ.take (i*2)=hc.take (i*2))(g4:(zyQ.drop (i*2)).take 2=Hd.cells x)
 (g5:(zyQ.drop ((i+1)*2)).take ((O l-i)*2)=(l.drop i).flatMap Hd.cells):Own Hd.cells 245 2 (aI h b (.cells zyQ 245)) (.sl b 0 (O l+1) cap) (l.take i++x::l.drop i):=by
 have hz:∀x,O (Hd.cells x)=2:=λ_=>rfl;have dc:(l.take i).flatMap Hd.cells=hc.take (i*2):=by rw[<-fY hz,<-eJ,bI,b9 (aM _ H)]
 have hre:(l.take i++x::l.drop i).flatMap Hd.cells=hc.take (i*2)++Hd.cells x++(l.drop i).flatMap Hd.cells:=by rw[bL,bE,dc,aA]
 have xY:O (l.take i++x::l.drop i)=O l+1:=gr;refine .inr ⟨b,cap,zyQ,by rw[xY],iA,by rw[xY];exact g1,g2,?_⟩;have e1:(O l+1)*2=i*2+(2+(O l-i)*2):=by have:O l+1=i+(1+(O l-i)):=U;rw[this,bC,bC,dB]
 rw[hre,xY,e1,k9,k9,g3,g4,lM];have e2:i*2+2=(i+1)*2:=by rw[bC,dB]
 rw[e2,g5,aA]
def UX(x b1 h Y)(L:N h b1=J (.cells (Hd.cells x) 245)):UP 257 [FB,int (0:Nat),.sl b1 0 1 1] h Y (Sa h Y (FB) [x]):=by
 have J4:dt h b1 0 (1*2)=J (Hd.cells x):=by rw[cL,L];rfl
 have lX:∀x,(Hd.cells x).all u.dh=M:=λ_=>rfl;refine az.ac 3 L8 func257 ?_;simp+decide-dsimp only[f257,go_sem,Int.ofNat_zero,J4];refine pO λcap gs A hg=>?_;refine QZ ?_;refine⟨Frame.refl.set (.inl (an _)),λb e=> .inr ?_,.inr ⟨Y,cap,_,Z,iA,A,?_,?_⟩⟩;.injection e with e;omega
 .rw[aq,bh];exact hg
 .rw[show[x].length*2=O (Hd.cells x) from Z,Ns Z];exact(cy _).symm
def QI(l:List Hd)(x b1 b cap hc h Y)(L:N h b1=J (.cells (Hd.cells x) 245))(hA:N h b=J (.cells hc 245))(cf:O hc=cap*2)(eJ:hc.take (O l*2)=l.flatMap Hd.cells)
 (hr:O l+1<=cap):UP 257 [.sl b 0 (O l) cap,int (O l),.sl b1 0 1 1] h Y (Sa h Y (.sl b 0 (O l) cap) (l.take (O l)++x::l.drop (O l))):=by
 have J4:dt h b1 0 (1*2)=J (Hd.cells x):=by rw[cL,L];rfl
 have lX:∀x,(Hd.cells x).all u.dh=M:=λ_=>rfl;have hz:∀x,O (Hd.cells x)=2:=λ_=>rfl;have hmr:=aM 2 hr;have Lu:(O l+1)*2=O l*2+2:=by rw[bC,dB]
 refine az.ac 3 L8 func257 ?_;simp+decide-dsimp only[f257,go_sem,J4,lX,hr,hA,(cG _ _ _ (by rw[cf,hz];omega):eG (O l*2) hc (Hd.cells x)=J _)];refine⟨Frame.refl.set (.inr Z),λb e=> .inl e,sZ (an _) eJ hr ?_ ?_ ?_ ?_⟩;.simp only[aq,ax,aC,cf,hz];omega
 .rw[aA,aD (by rw[ax,cf];omega),bI,dZ]
 .rw[aA,cx (by rw[ax,cf];omega),aX (Es @ax),cz,aD (by rw[hz];exact an _),aH (by rw[hz];exact an _)]
 .rw[kX,fJ,dJ,jW];rfl
def Rb(l:List Hd)(K:O l+1<65536)(x b1 b cap hc h Y)(L:N h b1=J (.cells (Hd.cells x) 245))(hA:N h b=J (.cells hc 245))(nG:O l<=cap)(cf:O hc=cap*2)(eJ:hc.take (O l*2)=l.flatMap Hd.cells)
 (hr:¬O l+1<=cap):UP 257 [.sl b 0 (O l) cap,int (O l),.sl b1 0 1 1] h Y (Sa h Y (.sl b 0 (O l) cap) (l.take (O l)++x::l.drop (O l))):=by
 have J4:dt h b1 0 (1*2)=J (Hd.cells x):=by rw[cL,L];rfl
 have lX:∀x,(Hd.cells x).all u.dh=M:=λ_=>rfl;have hz:∀x,O (Hd.cells x)=2:=λ_=>rfl;have jL:br.dt h b 0 (O l*2)=J (l.flatMap Hd.cells):=by rw[cL,hA,cV,iq,aT,bZ _ _ (cf▸(aM _ nG)),eJ]
 refine az.ac 3 L8 func257 ?_;simp+decide-dsimp only[f257,go_sem,J4,jL,hr,K];refine pO λtq gs A hg=>?_;refine QZ ?_;have mn:O (l.flatMap Hd.cells)=O l*2:=cj hz l;refine⟨Frame.refl.set (.inl (an _)),λb e=> .inr ?_,sZ (an _) eJ A ?_ ?_ ?_ ?_⟩;.injection e with e;omega
 .simp only[aq,bh,hz,mn]at hg⊢;exact hg
 .rw[aA,aD (by rw[mn];exact an _),aH (by rw[mn];exact an _),eJ]
 .rw[aA,<-mn,cx (an _),jW,cz,aD (by rw[hz];exact an _),aH (by rw[hz];exact an _)]
 .rw[kX,fJ,dJ,jW];rfl
def Sj(l:List Hd)(K:O l+1<65536)(i:Nat)(yo:i<O l)(x b1 b cap hc h Y)(D:¬(b1=b))(L:N h b1=J (.cells (Hd.cells x) 245))(hA:N h b=J (.cells hc 245))(cf:O hc=cap*2)(eJ:hc.take (O l*2)=l.flatMap Hd.cells)
 (hr:O l+1<=cap):UP 257 [.sl b 0 (O l) cap,int i,.sl b1 0 1 1] h Y (Sa h Y (.sl b 0 (O l) cap) (l.take i++x::l.drop i)):=by
 have lX:∀x,(Hd.cells x).all u.dh=M:=λ_=>rfl;have hz:∀x,O (Hd.cells x)=2:=λ_=>rfl;have WH:dC (1*2) (Hd.cells x)=J (Hd.cells x):=rfl;have H:i<=O l:=eC yo;have zF:¬(cap=i):=U;have Gu:i<=O l+1:=U;have wX:Nat.min 1 (O l+1-i)=1:=by show min _ _=_;omega
 have Bh:Nat.min (O l+1-i) (O l-i)=O l-i:=by show min _ _=_;omega
 have hM:O ((l.drop i).flatMap Hd.cells)=(O l-i)*2:=by rw[cj hz,aC]
 have VX:(hc.drop (i*2)).take ((O l-i)*2)=(l.drop i).flatMap Hd.cells:=by rw[<-fA hz,<-eJ,gz,<-nN]
 have hmr:=aM 2 hr;have hmn:i*2+(O l-i)*2=O l*2:=by rw[<-bC];congr 1;omega
 have Th:(O l+1)*2=O l*2+2:=by rw[bC,dB]
 have Jr:(i+1)*2=i*2+2:=by rw[bC,dB]
 have Wk:(O l+1-i)*2=(O l-i)*2+2:=by rw[show O l+1-i=(O l-i)+1 from U,bC,dB]
 have EP:eG ((i+1)*2) hc ((l.drop i).flatMap Hd.cells)=J _:=cG _ _ _ (by rw[hM,cf];omega);rw[hM]at EP;have uq:(hc.take ((i+1)*2)++(l.drop i).flatMap Hd.cells++hc.drop ((i+1)*2+(O l-i)*2)).length=cap*2:=by simp only[aq,ax,aC,hM,cf];omega
 generalize wg:hc.take ((i+1)*2)++(l.drop i).flatMap Hd.cells++hc.drop ((i+1)*2+(O l-i)*2)=A1 at EP uq;have De:∀o,br.dt (aI h b o) b1 0 (1*2)=J (Hd.cells x):=λo=>by rw[cL,Xg D,L];rfl
 have hv2:j8 h b=M:=by
  exact atW
 refine az.ac 3 L8 func257 (PV f257.eq_1 H (U:¬((i:Int)=(O l:Int))) (U:O l+1<9223372036854775808) (U:¬(cap<O l+1)) ?_);refine asC L8.eq_1 hr D (U:i+1<9223372036854775808) Gu (U:i+1<=O l+1) zF (U:¬(cap=i+1)) (U:O l+1-(i+1)=O l-i) (by simp[j8,L,AO.cells?,Hd.cells]:j8 h b1=M) hv2 ?_;refine Ik Gu hA (by rw[cL,hA,cV,eY _ _ U,aT,bZ _ _ (by rw[aC,cf];omega)]:br.dt h b (i*2) ((O l+1-i)*2)=J ((hc.drop (i*2)).take ((O l+1-i)*2))) (by rw[bZ _ _ (by rw[ax,aC,cf];omega),bI,b9 U,VX]:dC ((O l-i)*2) ((hc.drop (i*2)).take ((O l+1-i)*2))=J ((l.drop i).flatMap Hd.cells)) Bh (gr:(O l-i==0)=R) EP zF ?_;refine PV lX De wX WH (cG _ _ _ (by rw[uq,hz];omega):eG (i*2) A1 (Hd.cells x)=J _) ?_;refine⟨(Frame.refl.set (.inr Z)).set (.inr Z),λb e=> .inl e,sZ H eJ hr ?_ ?_ ?_ ?_⟩;.simp only[aq,ax,aC,uq,hz];omega
 .rw[aA,aD (by rw[ax,uq];omega),bI,dZ,<-wg,aA,aD (by rw[ax,cf];omega),bI,b9 U]
 .rw[aA,cx (by rw[ax,uq];omega),aX (Es @ax),cz,aD (by rw[hz];exact an _),aH (by rw[hz];exact an _)]
 .rw[dr2 (by rw[ax,uq,hz];omega),hz,<-Jr,<-wg,aA,XZ (by rw[ax,cf];omega),Ns hM]
def R7(l:List Hd)(K:O l+1<65536)(i:Nat)(yo:i<O l)(x b1 b cap hc h Y)(KO:b<Y)(amg:b1<Y)(L:N h b1=J (.cells (Hd.cells x) 245))(hA:N h b=J (.cells hc 245))(nG:O l<=cap)(cf:O hc=cap*2)(eJ:hc.take (O l*2)=l.flatMap Hd.cells)
 (hr:¬O l+1<=cap):UP 257 [.sl b 0 (O l) cap,int i,.sl b1 0 1 1] h Y (Sa h Y (.sl b 0 (O l) cap) (l.take i++x::l.drop i)):=by
 have lX:∀x,(Hd.cells x).all u.dh=M:=λ_=>rfl;have hz:∀x,O (Hd.cells x)=2:=λ_=>rfl;have WH:dC (1*2) (Hd.cells x)=J (Hd.cells x):=rfl;have H:i<=O l:=eC yo;have OU:O l+1<9223372036854775808:=U;have Gu:i<=O l+1:=U;have wX:Nat.min 1 (O l+1-i)=1:=by show min _ _=_;omega
 have hM:O ((l.drop i).flatMap Hd.cells)=(O l-i)*2:=by rw[cj hz,aC]
 have VX:(hc.drop (i*2)).take ((O l-i)*2)=(l.drop i).flatMap Hd.cells:=by rw[<-fA hz,<-eJ,gz,<-nN]
 have hmi:=aM 2 H;have hmc:=aM 2 nG;have hmn:i*2+(O l-i)*2=O l*2:=by rw[<-bC];congr 1;omega
 have Th:(O l+1)*2=O l*2+2:=by rw[bC,dB]
 have Jr:(i+1)*2=i*2+2:=by rw[bC,dB]
 have Wk:(O l+1-i)*2=(O l-i)*2+2:=by rw[show O l+1-i=(O l-i)+1 from U,bC,dB]
 have hBl:(hc.take (i*2)++gT (O l+1-i) [int 0,u64 0]).length=(O l+1)*2:=by rw[aq,ax,vO];show _+_*2=_;omega
 refine az.ac 3 L8 func257 (PV f257.eq_1 H (U:¬((i:Int)=(O l:Int))) OU (U:cap<O l+1) ?_);refine asA Gu (U:i<=cap) OU (U:O l+1-i<65536) (gr:(O l+1-i==0)=R) (U:i+(O l+1-i)=O l+1) hr K (by rw[cL,hA,cV,iq,aT,bZ _ _ U]:br.dt h b 0 (i*2)=J (hc.take (i*2))) ?_;refine pO λtq gs A hg=>?_;rw[<-aq,hBl]at hg;have Gg:(hc.take (i*2)++gT (O l+1-i) [int 0,u64 0]++gs.map u.g).length=tq*2:=by rw[aq,hBl,bh];exact hg
 have hBt:(hc.take (i*2)++gT (O l+1-i) [int 0,u64 0]++gs.map u.g).take (i*2)=hc.take (i*2):=by rw[aA,aD (Es @ax),bI,dZ]
 have hmc':=aM 2 A;generalize hBe:hc.take (i*2)++gT (O l+1-i) [int 0,u64 0]++gs.map u.g=zyQ at Gg hBt;have EP:eG (i*2) zyQ (Hd.cells x)=J _:=cG _ _ _ (by rw[Gg,hz];omega);have uq:(zyQ.take (i*2)++Hd.cells x++zyQ.drop (i*2+O (Hd.cells x))).length=tq*2:=by simp only[aq,ax,aC,hz,Gg];omega
 generalize wg:zyQ.take (i*2)++Hd.cells x++zyQ.drop (i*2+O (Hd.cells x))=A1 at EP uq;have De:∀o,br.dt (aI h Y o) b1 0 (1*2)=J (Hd.cells x):=λo=>by rw[cL,Xg,L];rfl
 have hl5:∀o o',br.dt (aI (aI h Y o) Y o') b (i*2) ((O l-i)*2)=J ((l.drop i).flatMap Hd.cells):=λo o'=>by rw[cL,Xg,Xg,hA,cV,eY _ _ U,aT,bZ _ _ (Es @aC),VX]
 have ht5:dC ((O l-i)*2) ((l.drop i).flatMap Hd.cells)=J ((l.drop i).flatMap Hd.cells):=by rw[bZ _ _ (by rw[hM];exact an _),aH (by rw[hM];exact an _)]
 refine YM lX Gu (U:¬(tq=i)) wX De WH EP ?_;simp+decide-dsimp only[go_sem,L8,H,(U:i+1<=O l+1),(U:i+1<9223372036854775808),(U:¬(cap=i)),(U:¬(tq=i+1)),(U:O l+1-(i+1)=O l-i),(dZ _:Nat.min (O l-i) (O l-i)=O l-i),(gr:(O l-i==0)=R),hl5,ht5,(cG _ _ _ (by rw[hM,uq];omega):eG ((i+1)*2) A1 ((l.drop i).flatMap Hd.cells)=J _)];refine⟨Frame.set (Frame.set (Frame.set Frame.refl ?_) ?_) ?_,λb e=> .inr ?_,sZ H eJ A ?_ ?_ ?_ ?_⟩;.exact .inl (an _)
 .exact .inl (an _)
 .exact .inl (an _)
 .injection e with e;omega
 .simp only[aq,ax,aC,uq,hM];omega
 .rw[aA,aD (by rw[ax,uq];omega),bI,b9 U,<-wg,aA,aD (by rw[ax,Gg];omega),bI,dZ,hBt]
 .have hAt:A1.take ((i+1)*2)=zyQ.take (i*2)++Hd.cells x:=by rw[<-wg];exact Ns (by rw[aq,ax,Gg,hz];omega)
  rw[hAt,aA,aA,XZ (by rw[ax,Gg];omega),Ns (hz x)]
 .rw[aA,XZ (by rw[ax,uq];omega),Ns hM]
def ajq(l:List Hd)(K:O l+1<65536)(v)(i:Nat)(H:i<=O l)(x b1 h Y)(ho:Own Hd.cells 245 2 h v l)(mO:In 0 Y v)
 (V7:b1<Y) (cD:cu v≠J b1) (L:N h b1=J (.cells (Hd.cells x) 245)):
 UP 257 [v,int i,.sl b1 0 1 1] h Y (Sa h Y v (l.take i++x::l.drop i)):=by
 obtain⟨rfl,rfl⟩|⟨b,cap,hc,rfl,hA,nG,cf,eJ⟩:=ho
 .have:i=0:=Mf H
  subst this;exact UX x b1 h Y L
 by_cases JR:i=O l
 .subst JR;by_cases hr:O l+1<=cap;.exact QI l x b1 b cap hc h Y L hA cf eJ hr
  .exact Rb l K x b1 b cap hc h Y L hA nG cf eJ hr
 .by_cases hr:O l+1<=cap;.exact Sj l K i U x b1 b cap hc h Y (λe=>cD (by rw[e];rfl)) L hA cf eJ hr
  .exact R7 l K i U x b1 b cap hc h Y ((mO b Z).2) V7 L hA nG cf eJ hr
variable{he:u}{c d sz:Nat}{α:Type}
structure Nd.zxQ(n:Nd):Prop where
 sorted:∀i,i+1<O n.aJ->n.aJ.getD i []<n.aJ.getD (i+1) []
 xP:∀i,i<O n.aJ->(!n.bd||decide (n.aJ.getD i []<n.cQ))=M
 H:n.bd=R->n.cQ=[]
 lf:n.ay=M->O n.gZ=O n.aJ/\n.bu=[]
 nd:n.ay=R->n.gZ=[]/\O n.bu=O n.aJ+1
 small:O n.aJ<60000
def Nd.eF(n:Nd)(k:aY):Bool:= !n.bd||decide (k<n.cQ)
def dA{a b:aY}(h:a<b):¬b<a:=λQ=>absurd (List.lt_trans h Q) (List.lt_irrefl a)
def LZ(n:Nd)(hR:n.zxQ):bz 246 [n.av] (bW M):=by
 refine bz.ac 1 T0 func246 λh Y=>?_;refine J7 f246.eq_1 @Nd.av.eq_1 @Nd.cells.eq_1 ?_;refine cI _ _ (λm s Q E=>∃i,i<=O n.aJ/\m=O n.aJ-i/\X s 1= .ptr Y 0/\X s 6=strs n.aJ/\X s 7=int (O n.aJ)/\X s 8=int i/\Q=aI h Y (.cells n.cells 247)/\E=Y+1) (n:=O n.aJ) ?_ ?_;.refine QZ ?_;exact⟨0,aQ _,by simp[Nd.cells]⟩
 rintro m s Q E ⟨i,H,rfl,s1,s6,s7,s8,rfl,rfl⟩;have G:=hR.small;by_cases K:i<O n.aJ
 .have A:=hR.xP i K;have hw:i+1<9223372036854775808:=U;have Vz:=P7 n (n.aJ.getD i []);rw[A]at Vz;by_cases h0:0<i;.obtain⟨j,rfl⟩:∃j,i=j+1:=⟨i-1,U⟩;have qX:(0:Int)<((j+1:Nat):Int):=U;have W:1<=j+1:=U;have F:j+1<9223372036854775808:=U;have h3:j<O n.aJ:=U;have dc:=hR.sorted j K;have ah1:¬n.aJ.getD (j+1) []<n.aJ.getD j []:=dA dc;simp+decide-dsimp only[go_sem,s1,s6,s7,s8,Nd.cells,K,qX,W,F,h3,gj];refine ba (XV _ _) ?_;refine Y8 s1 dc ?_;refine ba Vz ?_;refine PV s1 s6 s7 s8 hw ?_;exact⟨_,(U:O n.aJ-(j+1+1)<_),j+1+1,K,by simp[Nd.cells]⟩
  .have qX:¬(0:Int)<(i:Int):=U;refine YM s1 s6 s7 s8 @Nd.cells.eq_1 K qX ?_;refine ba Vz ?_;refine PV s1 s6 s7 s8 hw ?_;exact⟨_,(U:O n.aJ-(i+1)<_),i+1,K,by simp[Nd.cells]⟩
 .have Lw:O n.aJ+1<9223372036854775808:=U;have mB:(!n.bd&& !decide (n.cQ=[]))=R:=by
   cases D:n.bd with
   |true=>rfl
   |false=>simp[hR.H D]
  cases D:n.bd with
  |true=>
   cases mn:n.ay with
   |true=>have⟨e1,e2⟩:=hR.lf mn;refine asA s1 s7 s8 @Nd.cells.eq_1 K D mn e1 e2 ?_;exact .of (aG.refl.set (an _)) .cP
   |false=>have⟨e1,e2⟩:=hR.nd mn;refine asB s1 s7 s8 @Nd.cells.eq_1 K D mn e1 e2 Lw ?_;exact .of (aG.refl.set (an _)) .cP
  |false=>
   have Cj:=hR.H D;cases mn:n.ay with
   |true=>have⟨e1,e2⟩:=hR.lf mn;refine asB s1 s7 s8 @Nd.cells.eq_1 K D mn e1 e2 Cj ?_;exact .of (aG.refl.set (an _)) .cP
   |false=>have⟨e1,e2⟩:=hR.nd mn;refine asC s1 s7 s8 @Nd.cells.eq_1 K D mn e1 e2 Lw Cj ?_;exact .of (aG.refl.set (an _)) .cP
def aax(n:Nd):bz 242 [n.av] (bW (decide (4<O n.aJ))):=by refine bz.ac 1 T0 func242 λh Y=>?_;refine J7 f242.eq_1 @Nd.av.eq_1 @Nd.cells.eq_1 ?_;refine .eE (aG.refl.set (an _)) .cP ?_;exact ff (λb=>u.g (.bool b)) (jl.2 U)
def akT(n:Nd)(hR:n.zxQ)(k):bz 249 [n.av,cg k] (bW (n.ay&&n.eF k)):=by
 refine bz.ac 2 T0 func249 λh Y=>?_;cases K:n.ay with
 |true=>refine L6 f249.eq_1 @Nd.av.eq_1 @Nd.cells.eq_1 K ?_;refine ba (by have:=LZ n hR;rw[Nd.av,Nd.cells,K]at this;exact this) ?_;refine QZ ?_;refine ba (by have:=P7 n k;rw[Nd.av,Nd.cells,K]at this;exact this) ?_;refine QZ ?_;exact .of (aG.refl.set (an _)) .cP
 |false=>refine L6 f249.eq_1 @Nd.av.eq_1 @Nd.cells.eq_1 K ?_;exact .of (aG.refl.set (an _)) .cP
def Nd.jQ(n:Nd)(k:aY):Nat:=place n.aJ k+if n.has k then 1 else 0
def Nd.zxQ.Dy{n:Nd}(hR:n.zxQ)(K:n.ay=R)(k):n.jQ k<O n.bu:=by
 have⟨_,e⟩:=hR.nd K;have:=jD n.aJ k;unfold Nd.jQ Nd.has;split;.rename_i h;simp at h;omega
 .omega
def acy(n:Nd)(hR:n.zxQ)(K:n.ay=R)(k)(A:n.eF k=M):bz 245 [n.av,cg k] (.dY [(n.bu.getD (n.jQ k) default).av,bW M]):=by
 refine bz.ac 2 T0 func245 λh Y=>?_;have G:=hR.small;have hk:=hR.Dy K k;have hp:=jD n.aJ k;have Mg:=P7 n k;rw[show(!n.bd||decide (k<n.cQ))=M from A]at Mg;refine L6 f245.eq_1 @Nd.av.eq_1 @Nd.cells.eq_1 K ?_;refine ba (by have:=LZ n hR;rw[Nd.av,Nd.cells,K]at this;exact this) ?_;refine QZ ?_;refine ba (by rw[Nd.av,Nd.cells,K]at Mg;exact Mg) ?_;refine QZ ?_;refine ba (by have:=Rv n k U;rw[Nd.av,Nd.cells,K]at this;exact this) ?_;cases hh:n.has k with
 |true=>unfold Nd.jQ at hk⊢;rw[hh,au Z]at hk;simp only[hh,cA];refine J7 (U:place n.aJ k+1<9223372036854775808) hk @Hd.cells.eq_1 ?_;exact .eE (((aG.refl.set (an _)).set (bG _)).set (bG _)) (.cw (.mC ⟨trivial,trivial,trivial⟩ trivial)) Z
 |false=>unfold Nd.jQ at hk⊢;rw[hh,ak bR,dP]at hk;refine J7 hh hk @Hd.cells.eq_1 ?_;exact .eE (((aG.refl.set (an _)).set (bG _)).set (bG _)) (.cw (.mC ⟨trivial,trivial,trivial⟩ trivial)) Z
def Own.aW{c:α->List u}{e v l}(o:Own c e sz h v l)(hk:∀b,cu v=J b->N Q b=N h b):Own c e sz Q v l:=by
 obtain o|⟨b,cap,hc,rfl,hA,W,F,h3⟩:=o;.exact .inl o
 .exact .inr ⟨b,cap,hc,Z,by rw[hk b Z];exact hA,W,F,h3⟩
def Own.cells{α:Type}{c:α->List u}{e sz h v l}(o:Own c e sz h v l):u.cells v=J [v]/\u.dh v=M:=by rcases o with⟨rfl,_⟩|⟨b,cap,hc,rfl,_⟩<;>exact⟨Z,Z⟩
def jz.mem{l}(h:∀x∈l,tF Y x):jz Y l:=jz.iff.2 h
def Own.fz{c:α->List u}{e v l H}(o:Own c e sz h v l)(mO:In Y H v)(A:∀x,∀y∈c x,tF Y y):Fz h Y v (Lk c l):=by
 obtain⟨rfl,rfl⟩|⟨b,cap,hc,rfl,hA,W,F,h3⟩:=o;.exact .nil
 .refine .sl (q:=O l*sz) (mO b Z).1 hA Z W ?_;rw[nc,h3];refine .cw (jz.mem λy hy=>?_);have⟨x,_,L⟩:=cS.1 hy;exact A x y L
def mE:∀x,∀y∈gv x,tF Y y:=λx y h=>by simp[gv]at h;subst h;exact trivial
def sB:∀x,∀y∈Hd.cells x,tF Y y:=λx y h=>by simp[Hd.cells]at h;rcases h with rfl|rfl<;>exact trivial
structure To(h:aE)(lo H:Nat)(hl he hi:u)(n:Nd):Prop where
 k:Own gv 9 1 h hl n.aJ
 v:Own gv 9 1 h he n.gZ
 c:Own Hd.cells 245 2 h hi n.bu
 ik:In lo H hl
 iv:In lo H he
 ic:In lo H hi
 kv:∀b,cu hl=J b->cu he≠J b
 kc:∀b,cu hl=J b->cu hi≠J b
 vc:∀b,cu he=J b->cu hi≠J b
def Nd.Yf(n:Nd)(hl he hi:u):u:= .agg [bW n.ay,hl,he,hi,cg n.cQ,bW n.bd,int n.next.X,u64 n.next.bo]
def To.fz{h Y H hl he hi n}(o:To h Y H hl he hi n):Fz h Y (n.Yf hl he hi) n.av:=
 .agg (.cons .cP (.cons (o.k.fz o.ik mE) (.cons (o.v.fz o.iv mE) (.cons (o.c.fz o.ic sB) (.cons .cg (.cons .cP (.cons .cP (.cons .cP .nil))))))))
def In.agQ{a hl}(W:In a b hl)(F:In c d he)(hbc:b<=c):∀x,cu hl=J x->cu he≠J x:=λx e1 e2=>by have:=W x e1;have:=F x e2;omega
def Xs(n:Nd)(hk:O n.aJ<65536)(hv:O n.gZ<65536)(A:O n.bu<65536)(h Y):UP 248 [n.av] h Y λv Q E=>∃hl he hi,v=n.Yf hl he hi/\To Q Y E hl he hi n/\aG Y h Q:=by
 refine az.ac 1 T0 func248 ?_;refine J7 f248.eq_1 @Nd.av.eq_1 @Nd.cells.eq_1 ?_;refine cm (a39 _ hk _ _) λhl W cC l1 ⟨q1,q2,q3⟩=>?_;have q1':∀b,b<Y+1+1->N W b=_:=q1;refine J7 q1' q3.cells.1 q3.cells.2 ?_;refine cm (a39 _ hv _ _) λhe F dR l2 ⟨r1,r2,r3⟩=>?_;have r1':∀b,b<cC->N F b=_:=r1;have n1:Y<cC:=U;refine L6 r1' n1 r3.cells.1 r3.cells.2 ?_;refine cm (apr _ A _ _) λhi h3 nx3 l3 ⟨s1,s2,s3⟩=>?_;have s1':∀b,b<dR->N h3 b=_:=s1;refine asC s1' (U:Y<dR) (U:Y+1<dR) r1' n1 (U:Y+1<cC) q1' s3.cells.1 s3.cells.2 q3.cells.2 r3.cells.2 ?_;refine⟨hl,he,hi,Z,⟨?_,?_,?_,q2.le U U,r2.le U U,s2.le U U,q2.agQ r2 (an _),q2.agQ s2 U,r2.agQ s2 (an _)⟩,?_⟩;.refine q3.aW λb e=>?_;have:=q2 b e;rw[Xg,Xg,s1 b U,Xg,r1 b U,Xg]
 .refine r3.aW λb e=>?_;have:=r2 b e;rw[Xg,Xg,s1 b U,Xg]
 .refine s3.aW λb e=>?_;have:=s2 b e;rw[Xg,Xg]
 .intro b D;rw[Xg,Xg,s1 b U,Xg,r1 b U,Xg,q1 b U,Xg,Xg]
variable{b' c':u}
def ins{α:Type}(l:List α)(i:Nat)(x:α):List α:=l.take i++x::l.drop i
def Nd.put(n:Nd)(k v:aY):Nd:=if n.has k then{n with gZ:=n.gZ.set (place n.aJ k) v}else{n with aJ:=ins n.aJ (place n.aJ k) k,gZ:=ins n.gZ (place n.aJ k) v}
def Nd.old(n:Nd)(k:aY):aY:=if n.has k then n.gZ.getD (place n.aJ k) []else[]
def aov{H hl hi}{n:Nd}(k:Own gv 9 1 h hl n.aJ)(v:Own gv 9 1 h he n.gZ)(c:Own Hd.cells 245 2 h hi n.bu)(ik:In Y H hl)(iv:In Y H he)(ic:In Y H hi):Fz h Y (n.Yf hl he hi) n.av:=
 .agg (.cons .cP (.cons (k.fz ik mE) (.cons (v.fz iv mE) (.cons (c.fz ic sB) (.cons .cg (.cons .cP (.cons .cP (.cons .cP .nil))))))))
def JI{H hl hi}{n:Nd}{lf}(e:n.ay=lf)(k:Own gv 9 1 h hl n.aJ)(v:Own gv 9 1 h he n.gZ)(c:Own Hd.cells 245 2 h hi n.bu)(ik:In Y H hl)(iv:In Y H he)(ic:In Y H hi):Fz h Y (.agg [bW lf,hl,he,hi,cg n.cQ,bW n.bd,int n.next.X,u64 n.next.bo]) n.av:=by subst e;exact aov k v c ik iv ic
def Fz.nD{b c a'}(W:Fz h Y a a')(F:Fz h Y b b')(h3:Fz h Y c c'):Fz h Y (.dY [a,b,c]) (.dY [a',b',c']):= .dY (.cons W (.cons F (.cons h3 .nil)))
def Own.at{h v l}(o:Own gv 9 1 h v l){i:Nat}(H:i<O l):∃b cap hc,v= .sl b 0 (O l) cap/\N h b=J (.cells hc 9)/\O l<=cap/\O hc=cap*1/\hc.take (O l*1)=l.flatMap gv/\iS (i*1) hc=J (cg (l.getD i [])):=by
 obtain⟨_,rfl⟩|⟨b,cap,hc,rfl,hA,W,F,h3⟩:=o;.simp at H
 .refine⟨b,cap,hc,Z,hA,W,F,h3,?_⟩;have e:∀(n:Nat) (hc:List u),iS n hc=hc[n]?:=by
   intro n
   induction n with
   |zero=>intro hc;cases hc<;>rfl
   |succ n ih=>intro hc;cases hc with
    |nil=>rfl
    |cons a hc=>show iS n hc=_;rw[ih];simp
  rw[e];have h4:hc[i*1]?=(hc.take (O l*1))[i*1]?:=by rw[gJ U]
  have h5:∀(l:List aY) (i:Nat),i<O l->(l.flatMap gv)[i*1]?=J (cg (l.getD i [])):=by
   intro l
   induction l with
   |nil=>intro i H;simp at H
   |cons x l ih=>
    intro i H;cases i with
    |zero=>rfl
    |succ i=>rw[bE];simpa[gv]using ih i (Mf H)
  rw[h4,h3,h5 l i H]
def Own.set{h b cap}{hc:List u}{l:List aY}(W:O l<=cap)(F:O hc=cap*1)(h3:hc.take (O l*1)=l.flatMap gv){i:Nat}(H:i<O l)(x):
 Own gv 9 1 (aI h b (.cells (hc.take (i*1)++[cg x]++hc.drop (i*1+1)) 9)) (.sl b 0 (O l) cap) (l.set i x):=by
 refine .inr ⟨b,cap,_,by rw[fG],iA,by rw[fG];exact W,?_,?_⟩;.simp only[aq,ax,aC,bD,fx];omega
 .have e:∀(l:List aY) (hc:List u) (i:Nat),i<O l->O l<=O hc->hc.take (O l)=l.flatMap gv->(hc.take i++[cg x]++hc.drop (i+1)).take (O l)=(l.set i x).flatMap gv:=by
   intro l
   induction l with
   |nil=>intro hc i H;simp at H
   |cons y l ih=>
    intro hc i H hA ht;cases hc with
    |nil=>simp at hA
    |cons a hc=>
     rw[bD,mV,bE]at ht;injection ht with ht1 Ln
     cases i with
     |zero=>simp only[dJ,cz,kS,nc,bD,EU,mV,Lz,bE];rw[Ln];rfl
     |succ i=>have:=ih hc i (Mf H) (Mf hA) Ln;simp only[mV,kS,bD,lC,List.set_cons_succ,bE];rw[ht1,<-this];rfl
  rw[fG];have:=e l hc i H U (Mf h3);simpa using this
def aqj(n:Nd)(hR:n.zxQ)(K:n.ay=M)(k v)(A:n.eF k=M):bz 241 [n.av,cg k,cg v] (.dY [(n.put k v).av,cg (n.old k),bW (n.has k)]):=by
 have⟨hvl,xC⟩:=hR.lf K;have G:=hR.small;have hp:=jD n.aJ k;refine bz.ac 3 T0 func241 λh Y=>?_;refine J7 f241.eq_1 @Nd.av.eq_1 @Nd.cells.eq_1 ?_;refine cm (Xs n U U (by rw[xC];show 0<_;omega) _ _) λ_ W cC l1 ⟨hl,he,hi,e,o,s⟩=>?_;subst e;have s':∀b,b<Y+1+1->N W b=_:=s;refine PV s' @Nd.Yf.eq_1 o.k.cells.2 o.v.cells.2 o.c.cells.2 ?_;refine ba (akT n hR k) ?_;simp+decide-dsimp only[go_sem,s',K,A];refine ba (by have:=Rv n k U;rw[Nd.av,Nd.cells,K]at this;exact this) ?_;cases hh:n.has k with
 |true=>
  have yW:place n.aJ k<O n.aJ:=by unfold Nd.has at hh;simp at hh;exact hh.1
  obtain⟨b,cap,hc,rfl,hA,g1,g2,g3,g4⟩:=o.v.at (i:=place n.aJ k) U;have D:=o.iv b Z;have hpv:place n.aJ k<O n.gZ:=U;have d3:¬(Y=b):=U;have EP:eG (place n.aJ k*1) hc [cg v]=J _:=cG _ _ _ (by rw[g2];show _+1<=_;omega);refine L6 hpv (U:¬(b=Y+1)) hA g4 ?_;refine L6 (U:¬(Y+1=b)) EP o.k.cells.2 o.c.cells.2 ?_;have hpe:n.put k v={n with gZ:=n.gZ.set (place n.aJ k) v}:=by unfold Nd.put;rw[hh];rfl
  have hoe:n.old k=n.gZ.getD (place n.aJ k) []:=by unfold Nd.old;rw[hh];rfl
  rw[hpe,hoe];refine .of ?_ (.nD ?_ .cg .cP);.intro q hq;rw[Xg,Xg,Xg,s q U,Xg,Xg]
  .refine JI (H:=cC) (n:={n with gZ:=n.gZ.set (place n.aJ k) v}) K (o.k.aW λq e=>?_) ((Own.set (h:=W) g1 g2 g3 hpv v).aW λq e=>?_) (o.c.aW λq e=>?_) (o.ik.le U (an _)) (o.iv.le U (an _)) (o.ic.le U (an _));.have W:=o.ik q e;have F:q≠b:=λe'=>o.kv q e (by rw[e'];rfl);rw[Xg,Xg F,Xg]
   .cases e;rw[Xg,Sr,Sr]
   .have W:=o.ic q e;have F:q≠b:=λe'=>o.vc b Z (e'▸e);rw[Xg,Xg F,Xg]
 |false=>
  have hpe:n.put k v={n with aJ:=ins n.aJ (place n.aJ k) k,gZ:=ins n.gZ (place n.aJ k) v}:=by unfold Nd.put;rw[hh];rfl
  have hoe:n.old k=[]:=by unfold Nd.old;rw[hh];rfl
  rw[hpe,hoe];refine QZ ?_;refine cm (afS n.aJ U hl _ hp k cC _ _ (o.k.aW λq e=>?_) (o.ik.le (aQ _) (bG _)) (aZ _) (λe=>by have:=o.ik _ e;omega) (by rw[Sr];rfl)) λK' F dR l2 ⟨f1,f2,f3⟩=>?_;.have:=o.ik q e;rw[Xg,Xg]
  have k1:N F (Y+1)=_:=(f1 (Y+1) U λe=>by have:=o.ik _ e;omega).trans ((zB (aP (aZ _) l1) (an _)).trans iA);refine J7 k1 f3.cells.1 f3.cells.2 ?_;have oV:∀q,cu he=J q->N F q=N W q:=λq e=>by have a1:=o.iv q e;rw[f1 q U (λe'=>o.kv q e' e),Xg,Xg]
  have oH:∀q,cu hi=J q->N F q=N W q:=λq e=>by have a1:=o.ic q e;rw[f1 q U (λe'=>o.kc q e' e),Xg,Xg]
  refine cm (afS n.gZ U he _ U v dR _ _ ((o.v.aW oV).aW λq e=>?_) (o.iv.le (aQ _) U) (aZ _) (λe=>by have:=o.iv _ e;omega) (by rw[Sr];rfl)) λV' h3 nx3 l3 ⟨p1,p2,p3⟩=>?_;.have:=o.iv q e;rw[Xg,Xg]
  have k2:N h3 (Y+1)=_:=(p1 (Y+1) U λe=>by have:=o.iv _ e;omega).trans ((zB (show Y+1<dR from U) (an _)).trans iA);refine PV k2 f3.cells.2 p3.cells.1 p3.cells.2 o.c.cells.2 ?_;have bK:∀q,cu K'=J q->(Y+2<=q/\q<dR)/\N h3 q=N F q:=λq e=>by
   obtain e1|e1:=f2 q e;.have:=o.ik q e1;refine⟨U,?_⟩;rw[p1 q U (o.kv q e1),Xg,Xg]
   .refine⟨U,?_⟩;rw[p1 q U (λe2=>by have:=o.iv q e2;omega),Xg,Xg]
  have bV:∀q,cu V'=J q->Y+2<=q/\q<nx3:=λq e=>by
   obtain e1|e1:=p2 q e;.have:=o.iv q e1;omega
   .omega
  have bH:∀q,cu hi=J q->(Y+2<=q/\q<cC)/\N h3 q=N W q:=λq e=>by have:=o.ic q e;refine⟨U,?_⟩;rw[p1 q U (λe'=>o.vc q e' e),Xg,Xg,oH q e]
  refine .of ?_ (.nD ?_ .cg .cP);.intro q hq;rw[Xg,Xg,p1 q U (λe=>by have:=o.iv q e;omega),Xg,Xg,f1 q U (λe=>by have:=o.ik q e;omega),Xg,Xg,s q U,Xg,Xg]
  .refine JI (H:=nx3) (n:={n with aJ:=ins n.aJ (place n.aJ k) k,gZ:=ins n.gZ (place n.aJ k) v}) K (f3.aW λq e=>?_) (p3.aW λq e=>?_) (o.c.aW λq e=>?_) (λq e=>?_) (λq e=>?_) (λq e=>?_);.have:=bK q e;rw[Xg,Xg,this.2]
   .have:=bV q e;rw[Xg,Xg]
   .have:=bH q e;rw[Xg,Xg,this.2]
   .have:=bK q e;omega
   .have:=bV q e;omega
   .have:=bH q e;omega
def Nd.del(n:Nd)(k:aY):Nd:=if n.has k then{n with aJ:=n.aJ.eraseIdx (place n.aJ k),gZ:=n.gZ.eraseIdx (place n.aJ k)}else n
def aoL(n:Nd)(hR:n.zxQ)(K:n.ay=M)(k)(A:n.eF k=M):bz 237 [n.av,cg k] (.dY [(n.del k).av,cg (n.old k),bW (n.has k)]):=by
 have⟨hvl,xC⟩:=hR.lf K;have G:=hR.small;have hp:=jD n.aJ k;refine bz.ac 2 T0 func237 λh Y=>?_;refine J7 f237.eq_1 @Nd.av.eq_1 @Nd.cells.eq_1 ?_;refine cm (Xs n U U (by rw[xC];show 0<_;omega) _ _) λ_ W cC l1 ⟨hl,he,hi,e,o,s⟩=>?_;subst e;have s':∀b,b<Y+1+1->N W b=_:=s;refine PV s' @Nd.Yf.eq_1 o.k.cells.2 o.v.cells.2 o.c.cells.2 ?_;refine ba (Rv n k U) ?_;cases hh:n.has k with
 |false=>
  have hpe:n.del k=n:=by unfold Nd.del;rw[hh];rfl
  have hoe:n.old k=[]:=by unfold Nd.old;rw[hh];rfl
  rw[hpe,hoe];refine L6 s' o.k.cells.2 o.v.cells.2 o.c.cells.2 ?_;refine .of ?_ (.nD (JI (H:=cC) Z (o.k.aW λq e=>?_) (o.v.aW λq e=>?_) (o.c.aW λq e=>?_) (o.ik.le U (an _)) (o.iv.le U (an _)) (o.ic.le U (an _))) .cg .cP);.intro q hq;rw[Xg,Xg,s q U,Xg,Xg]
  .have:=o.ik q e;rw[Xg,Xg]
  .have:=o.iv q e;rw[Xg,Xg]
  .have:=o.ic q e;rw[Xg,Xg]
 |true=>
  have hpe:n.del k={n with aJ:=n.aJ.eraseIdx (place n.aJ k),gZ:=n.gZ.eraseIdx (place n.aJ k)}:=by unfold Nd.del;rw[hh];rfl
  have hoe:n.old k=n.gZ.getD (place n.aJ k) []:=by unfold Nd.old;rw[hh];rfl
  rw[hpe,hoe];have yW:place n.aJ k<O n.aJ:=by unfold Nd.has at hh;simp at hh;exact hh.1
  have hpv:place n.aJ k<O n.gZ:=U;have hw:place n.aJ k+1<9223372036854775808:=U;refine Xf s' ?_;refine ba (akT n hR k) ?_;have⟨b,cap,hc,hVe,hA,g1,g2,g3,g4⟩:=o.v.at hpv;have D:=o.iv b (by rw[hVe];rfl);have i1:qa (J (.slice 9)) (cZ prog) he (int (place n.aJ k))=J (.val (.ptr b (place n.aJ k*1))):=by rw[hVe,CB hpv,SL,eB,fC]
  refine YM K A i1 (U:¬(b=Y+1)) hA g4 hw ?_;refine cm (amk n.aJ U hl _ yW _ _ (o.k.aW λq e=>?_) (o.ik.le (aQ _) (an _))) λK' F dR l2 ⟨f1,f2,f3⟩=>?_;.have:=o.ik q e;rw[Xg]
  have k1:N F (Y+1)=_:=(f1 (Y+1) U λe=>by have:=o.ik _ e;omega).trans iA;refine L6 k1 f3.cells.1 f3.cells.2 hw ?_;have oV:∀q,cu he=J q->N F q=N W q:=λq e=>by have a1:=o.iv q e;rw[f1 q U (λe'=>o.kv q e' e),Xg]
  refine cm (amk n.gZ U he _ hpv _ _ ((o.v.aW oV).aW λq e=>?_) (o.iv.le (aQ _) U)) λV' h3 nx3 l3 ⟨p1,p2,p3⟩=>?_;.have:=o.iv q e;rw[Xg]
  have k2:N h3 (Y+1)=_:=(p1 (Y+1) U λe=>by have:=o.iv _ e;omega).trans iA;refine PV k2 f3.cells.2 p3.cells.1 p3.cells.2 o.c.cells.2 ?_;have bK:∀q,cu K'=J q->(Y+2<=q/\q<cC)/\N h3 q=N F q:=λq e=>by rw[f2]at e;have:=o.ik q e;refine⟨U,?_⟩;rw[p1 q U (o.kv q e),Xg]
  have bV:∀q,cu V'=J q->Y+2<=q/\q<cC:=λq e=>by rw[p2]at e;have:=o.iv q e;omega
  have bH:∀q,cu hi=J q->(Y+2<=q/\q<cC)/\N h3 q=N W q:=λq e=>by have:=o.ic q e;refine⟨U,?_⟩;rw[p1 q U (λe'=>o.vc q e' e),Xg,f1 q U (λe'=>o.kc q e' e),Xg]
  refine .of ?_ (.nD (JI (H:=cC) (n:={ay:=M,aJ:=n.aJ.eraseIdx (place n.aJ k),gZ:=n.gZ.eraseIdx (place n.aJ k),bu:=n.bu,cQ:=n.cQ,bd:=n.bd,next:=n.next}) Z (f3.aW λq e=>?_) (p3.aW λq e=>?_) (o.c.aW λq e=>?_) (λq e=>?_) (λq e=>?_) (λq e=>?_)) .cg .cP);.intro q hq;rw[Xg,Xg,p1 q U (λe=>by have:=o.iv q e;omega),Xg,f1 q U (λe=>by have:=o.ik q e;omega),Xg,s q U,Xg,Xg]
  .have:=bK q e;rw[Xg,Xg,this.2]
  .have:=bV q e;rw[Xg,Xg]
  .have:=bH q e;rw[Xg,Xg,this.2]
  .have:=bK q e;omega
  .have:=bV q e;omega
  .have:=bH q e;omega
variable{P:Program}{m:Nat}{t:TypeId}{x y:Operand}
def Nd.add(n:Nd)(k:aY)(x:Hd):Nd:={n with aJ:=ins n.aJ (place n.aJ k) k,bu:=ins n.bu (place n.aJ k+1) x}
def akv(n:Nd)(hR:n.zxQ)(K:n.ay=R)(k)(x:Hd)(A:n.eF k=M)(hh:n.has k=R):bz 253 [n.av,cg k,x.av] (n.add k x).av:=by
 have⟨hvl,xC⟩:=hR.nd K;have G:=hR.small;have hp:=jD n.aJ k;refine bz.ac 3 T0 func253 λh Y=>?_;refine PV f253.eq_1 @Nd.av.eq_1 @Nd.cells.eq_1 @Hd.av.eq_1 @Hd.cells.eq_1 ?_;refine cm (Xs n U (by rw[hvl];show 0<_;omega) U _ _) λ_ W cC l1 ⟨hl,he,hi,e,o,s⟩=>?_;subst e;have s':∀b,b<Y+1+1+1->N W b=_:=s;have d1:¬(Y=cC):=U;refine RC s' d1 @Nd.Yf.eq_1 o.k.cells.2 o.v.cells.2 o.c.cells.2 ?_;refine ba (Rv n k U) ?_;rw[hh];refine J7 s' d1 K ?_;refine ba (by have:=LZ n hR;rw[Nd.av,Nd.cells,K]at this;exact this) ?_;refine J7 s' d1 K ?_;refine ba (by have:=P7 n k;rw[show(!n.bd||decide (k<n.cQ))=M from A,Nd.av,Nd.cells,K]at this;exact this) ?_;refine QZ ?_;refine cm (afS n.aJ U hl _ hp k (cC+1) _ _ (o.k.aW λq e=>?_) (o.ik.le (aQ _) U) (aZ _) (λe=>by have:=o.ik _ e;omega) (by rw[Sr];rfl)) λK' F dR l2 ⟨f1,f2,f3⟩=>?_;.have:=o.ik q e;rw[Xg,Xg,Xg]
 have k1:N F cC=_:=(f1 cC U λe=>by have:=o.ik _ e;omega).trans ((zB (aZ _) (an _)).trans iA);have k0:N F (Y+1)=J (.cells [int x.X,u64 x.bo] 245):=(f1 (Y+1) U λe=>by have:=o.ik _ e;omega).trans (by rw[Xg,Xg,Xg,s (Y+1) U,Xg,Sr]);have d5:¬(Y+1=dR):=U;refine RC k1 k0 (U:¬(Y+1=cC)) f3.cells.1 f3.cells.2 (U:place n.aJ k+1<9223372036854775808) ?_;have oH:∀q,cu hi=J q->N F q=N W q:=λq e=>by have a1:=o.ic q e;rw[f1 q U (λe'=>o.kc q e' e),Xg,Xg,Xg]
 have oV:∀q,cu he=J q->N F q=N W q:=λq e=>by have a1:=o.iv q e;rw[f1 q U (λe'=>o.kv q e' e),Xg,Xg,Xg]
 refine cm (ajq n.bu U hi _ U x dR _ _ ((o.c.aW oH).aW λq e=>?_) (o.ic.le (aQ _) U) (aZ _) (λe=>by have:=o.ic _ e;omega) (by rw[Sr];rfl)) λH' h3 nx3 l3 ⟨p1,p2,p3⟩=>?_;.have:=o.ic q e;rw[Xg,Xg]
 have k2:N h3 cC=_:=(p1 cC U λe=>by have:=o.ic _ e;omega).trans ((zB (show cC<dR from U) (an _)).trans iA);have k3:N h3 (Y+1+1)=J (.cells _ 247):=(p1 (Y+1+1) U λe=>by have:=o.ic _ e;omega).trans ((by rw[Xg,Xg,f1 (Y+1+1) U (λe=>by have:=o.ik _ e;omega),Xg,Xg,Xg,s (Y+1+1) U,Sr]));refine YM k2 k3 (U:¬(Y+1+1=cC)) f3.cells.2 p3.cells.1 p3.cells.2 o.v.cells.2 ?_;have bK:∀q,cu K'=J q->(Y+3<=q/\q<dR/\q≠cC)/\N h3 q=N F q:=λq e=>by
  obtain e1|e1:=f2 q e;.have:=o.ik q e1;refine⟨U,?_⟩;rw[p1 q U (o.kc q e1),Xg,Xg]
  .refine⟨U,?_⟩;rw[p1 q U (λe2=>by have:=o.ic q e2;omega),Xg,Xg]
 have bH:∀q,cu H'=J q->Y+3<=q/\q<nx3/\q≠cC:=λq e=>by
  obtain e1|e1:=p2 q e;.have:=o.ic q e1;omega
  .omega
 have bV:∀q,cu he=J q->(Y+3<=q/\q<cC)/\N h3 q=N W q:=λq e=>by have:=o.iv q e;refine⟨U,?_⟩;rw[p1 q U (o.vc q e),Xg,Xg,oV q e]
 refine .of ?_ (JI (H:=nx3) (n:={n with aJ:=ins n.aJ (place n.aJ k) k,bu:=ins n.bu (place n.aJ k+1) x}) K (f3.aW λq e=>?_) (o.v.aW λq e=>?_) (p3.aW λq e=>?_) (λq e=>?_) (λq e=>?_) (λq e=>?_));.intro q hq;rw[Xg,Xg,p1 q U (λe=>by have:=o.ic q e;omega),Xg,Xg,f1 q U (λe=>by have:=o.ik q e;omega),Xg,Xg,Xg,s q U,Xg,Xg,Xg]
 .have:=bK q e;rw[Xg,Xg,this.2]
 .have:=bV q e;rw[Xg,Xg,this.2]
 .have:=bH q e;rw[Xg,Xg]
 .have:=bK q e;omega
 .have:=bV q e;omega
 .have:=bH q e;omega
def Fz.CO{c:α->List u}{e}{l:List α}(hz:∀x,O (c x)=sz)(D:Y<=b)(hA:N h b=J (.cells hc e))(ht:hc.take (O l*sz)=l.flatMap c)(hm:m<=O l)(A:∀x,∀y∈c x,tF Y y):Fz h Y (.sl b 0 m m) (Lk c (l.take m)):=by
 have K:O (l.take m)=m:=Es @ax
 show Fz h Y _ (.fz _ _);rw[K];refine .sl (q:=m*sz) D hA Z (an _) ?_;have:hc.take (m*sz)=(l.take m).flatMap c:=by rw[<-fY hz,<-ht,bI,b9 (aM _ hm)]
 rw[nc,this];refine Cl.cw (jz.mem λy hy=>?_);have⟨x,_,L⟩:=cS.1 hy;exact A x y L
def Fz.Cr{c:α->List u}{e}{l:List α}(hz:∀x,O (c x)=sz)(D:Y<=b)(hA:N h b=J (.cells hc e))(ht:hc.take (O l*sz)=l.flatMap c)(nG:O l-m<=cap)(A:∀x,∀y∈c x,tF Y y):Fz h Y (.sl b (m*sz) (O l-m) cap) (Lk c (l.drop m)):=by
 show Fz h Y _ (.fz _ _);rw[aC];refine .sl (q:=(O l-m)*sz) D hA Z nG ?_;have:(hc.drop (m*sz)).take ((O l-m)*sz)=(l.drop m).flatMap c:=by rw[<-fA hz,<-ht,gz,<-nN]
 rw[this];refine Cl.cw (jz.mem λy hy=>?_);have⟨x,_,L⟩:=cS.1 hy;exact A x y L
def K4{l:Nat}(K:l<9223372036854775808):dE P h .quo t x y (int l) (int 2)=J (int (l / 2:Nat)):=by
 have:bM P (do eqGuard .quo t x y (.int .i64 l) (.int .i64 2);binOp .quo t (.int .i64 l) (.int .i64 2))=J (.int .i64 (l / 2:Nat)):=by unfold binOp eqGuard Op.intDiv;simp only[cr];have W:((l:Int).tdiv 2)=((l / 2:Nat):Int):=rfl;show J (Value.int .i64 (IntKind.i64.wrap ((l:Int).tdiv 2)))=_;rw[W,<-je,wrap_i64 U U]
 simp[dE,eX,jm,u.pV,lH,vf,this]
def acC:=RB [(13,[MO z8 9,MO [10] 11,RX]),(15,[MO z10 11,MO [12] 13,RX]),(16,[MO [0,1,2] 3,([4],[1],J 5),([6],[1],J 7),RX]),(17,[MO [0,1,2] 3,([],[1],J 4),MO [] 5,RX])]
def Nd.nJ(n:Nd):Nat:=O n.aJ / 2
def Nd.sep(n:Nd):aY:=n.aJ.getD n.nJ []
def Nd.left(n:Nd)(x:Hd):Nd:={ay:=n.ay,aJ:=n.aJ.take n.nJ,gZ:=if n.ay then n.gZ.take n.nJ else n.gZ,bu:=if n.ay then n.bu else n.bu.take (n.nJ+1),cQ:=n.sep,bd:=M,next:=x}
def Nd.right(n:Nd):Nd:={ay:=n.ay,aJ:=n.aJ.drop (if n.ay then n.nJ else n.nJ+1),gZ:=if n.ay then n.gZ.drop n.nJ else n.gZ,bu:=if n.ay then n.bu else n.bu.drop (n.nJ+1),cQ:=n.cQ,bd:=n.bd,next:=n.next}
def amq(n:Nd)(hR:n.zxQ)(K:n.ay=M)(F:2<=O n.aJ)(x:Hd):bz 252 [n.av,x.av] (.dY [(n.left x).av,n.right.av,cg n.sep]):=by
 have⟨hvl,xC⟩:=hR.lf K;have G:=hR.small;have hm:n.nJ<O n.aJ:=by unfold Nd.nJ;omega
 have hm0:n.nJ<=n.nJ:=an _;have Ji:n.nJ<O n.gZ:=U;have hq:O n.aJ<9223372036854775808:=U;have uh:n.aJ.getD n.nJ []=n.sep:=rfl;have hdv:O n.aJ / 2=n.nJ:=rfl;have rU:n.nJ<=O n.aJ:=U;have hlv':n.nJ<=O n.gZ:=U;have el:(n.left x).av= .agg [bW M,strs (n.aJ.take n.nJ),strs (n.gZ.take n.nJ),qF n.bu,cg n.sep,bW M,int x.X,u64 x.bo]:=by simp only[Nd.left,Nd.av,Nd.cells,K,cA]
 have er:n.right.av= .agg [bW M,strs (n.aJ.drop n.nJ),strs (n.gZ.drop n.nJ),qF n.bu,cg n.cQ,bW n.bd,int n.next.X,u64 n.next.bo]:=by simp only[Nd.right,Nd.av,Nd.cells,K,cA]
 rw[el,er];have Nn:=Xs n U U (by rw[xC];show 0<_;omega);rw[Nd.av,Nd.cells,K]at Nn;refine bz.ac 2 acC func252 λh Y=>?_;refine RC f252.eq_1 @Nd.av.eq_1 @Nd.cells.eq_1 @Hd.av.eq_1 @Hd.cells.eq_1 K ?_;refine cm (Nn _ _) λ_ W cC l1 ⟨K1,V1,H1,e1,o1,s1⟩=>?_;subst e1;have s1':∀b,b<Y+1+1+1+1->N W b=_:=s1;refine PV s1' @Nd.Yf.eq_1 o1.k.cells.2 o1.v.cells.2 o1.c.cells.2 ?_;refine ba (by have:=LZ n hR;rw[Nd.av,Nd.cells,K]at this;exact this) ?_;refine Y8 s1' (U:¬((O n.aJ:Int)<2)) ?_;refine cm (Nn _ _) λ_ F dR l2 ⟨K2,V2,H2,e2,o2,s2⟩=>?_;subst e2;have s2':∀b,b<cC->N F b=_:=s2;have d1:Y<cC:=U;have d2:Y+1<cC:=U;have d3:Y+1+1<cC:=U;have d4:Y+1+1+1<cC:=U;refine asD s2' s1' d1 d4 hq hdv hm @K4 @Nd.Yf.eq_1 o2.k.cells.2 o2.v.cells.2 o2.c.cells.2 ?_;rw[uh];obtain⟨bk1,ck1,Ak1,rfl,Ek1,gk1,_,tk1',_⟩:=o1.k.at hm;obtain⟨bv1,cv1,Av1,rfl,Ev1,gv1,_,tv1,_⟩:=o1.v.at Ji;obtain⟨bk2,ck2,Ak2,rfl,Ek2,gk2,_,tk2,_⟩:=o2.k.at hm;obtain⟨bv2,cv2,Av2,rfl,Ev2,gv2,_,tv2,_⟩:=o2.v.at Ji;have ik1:=o1.ik bk1 Z;have iv1:=o1.iv bv1 Z;have ik2:=o2.ik bk2 Z;have iv2:=o2.iv bv2 Z;have c1:n.nJ<=ck1:=U;have c2:n.nJ<=cv1:=U;have c3:¬(ck2=n.nJ):=U;have c4:¬(cv2=n.nJ):=U;simp+decide-dsimp only[go_sem,acC,s2',s1',d1,d2,d3,d4,hm0,rU,hlv',c1,c2,c3,c4,o1.c.cells.2,o2.c.cells.2,reduceAdd];refine .of ?_ (.nD ?_ ?_ .cg)
 .intro q hq
  repeat rw[Xg]
  rw[s2 q U]
  repeat rw[Xg]
  rw[s1 q U]
  repeat rw[Xg]
 .rw[K];refine .agg (.cons .cP (.cons (Fz.CO (e:=9) (λ_=>rfl) U (hc:=Ak1) ?_ tk1' rU mE) (.cons (Fz.CO (e:=9) (λ_=>rfl) U (hc:=Av1) ?_ tv1 hlv' mE) (.cons ((o1.c.aW λq e=>?_).fz (o1.ic.le U (an _)) sB) (.cons .cg (.cons .cP (.cons .cP (.cons .cP .nil))))))))
  .repeat rw[Xg]
   rw[s2 _ U]
   repeat rw[Xg]
   exact Ek1
  .repeat rw[Xg]
   rw[s2 _ U]
   repeat rw[Xg]
   exact Ev1
  .have:=o1.ic q e
   repeat rw[Xg]
   rw[s2 _ U]
   repeat rw[Xg]
 .rw[K];refine .agg (.cons .cP (.cons (Fz.Cr (e:=9) (λ_=>rfl) U (hc:=Ak2) ?_ tk2 U mE) (.cons (Fz.Cr (e:=9) (λ_=>rfl) U (hc:=Av2) ?_ tv2 U mE) (.cons ((o2.c.aW λq e=>?_).fz (o2.ic.le U (an _)) sB) (.cons .cg (.cons .cP (.cons .cP (.cons .cP .nil))))))))
  .repeat rw[Xg]
   exact Ek2
  .repeat rw[Xg]
   exact Ev2
  .have:=o2.ic q e
   repeat rw[Xg]
def amj(n:Nd)(hR:n.zxQ)(K:n.ay=R)(F:3<=O n.aJ)(x:Hd):bz 252 [n.av,x.av] (.dY [(n.left x).av,n.right.av,cg n.sep]):=by
 have⟨hvl,xC⟩:=hR.nd K;have G:=hR.small;have hm:n.nJ<O n.aJ:=by unfold Nd.nJ;omega
 have Lu:n.nJ+1<O n.aJ:=by unfold Nd.nJ;omega
 have hm0:n.nJ<=n.nJ:=an _;have LP:n.nJ+1<=n.nJ+1:=an _;have Ji:n.nJ+1<O n.bu:=U;have hq:O n.aJ<9223372036854775808:=U;have hw:n.nJ+1<9223372036854775808:=U;have uh:n.aJ.getD n.nJ []=n.sep:=rfl;have hdv:O n.aJ / 2=n.nJ:=rfl;have rU:n.nJ<=O n.aJ:=U;have arA:n.nJ+1<=O n.aJ:=U;have hlv':n.nJ+1<=O n.bu:=U;have el:(n.left x).av= .agg [bW R,strs (n.aJ.take n.nJ),strs n.gZ,qF (n.bu.take (n.nJ+1)),cg n.sep,bW M,int x.X,u64 x.bo]:=by simp only[Nd.left,Nd.av,Nd.cells,K];rfl
 have er:n.right.av= .agg [bW R,strs (n.aJ.drop (n.nJ+1)),strs n.gZ,qF (n.bu.drop (n.nJ+1)),cg n.cQ,bW n.bd,int n.next.X,u64 n.next.bo]:=by simp only[Nd.right,Nd.av,Nd.cells,K];rfl
 rw[el,er];have Nn:=Xs n U (by rw[hvl];show 0<_;omega) U;rw[Nd.av,Nd.cells,K]at Nn;refine bz.ac 2 acC func252 λh Y=>?_;refine RC f252.eq_1 @Nd.av.eq_1 @Nd.cells.eq_1 @Hd.av.eq_1 @Hd.cells.eq_1 K ?_;refine cm (Nn _ _) λ_ W cC l1 ⟨K1,V1,H1,e1,o1,s1⟩=>?_;subst e1;have s1':∀b,b<Y+1+1+1+1->N W b=_:=s1;refine PV s1' @Nd.Yf.eq_1 o1.k.cells.2 o1.v.cells.2 o1.c.cells.2 ?_;refine ba (by have:=LZ n hR;rw[Nd.av,Nd.cells,K]at this;exact this) ?_;refine Y8 s1' (U:¬((O n.aJ:Int)<3)) ?_;refine cm (Nn _ _) λ_ F dR l2 ⟨K2,V2,H2,e2,o2,s2⟩=>?_;subst e2;have s2':∀b,b<cC->N F b=_:=s2;have d1:Y<cC:=U;have d2:Y+1<cC:=U;have d3:Y+1+1<cC:=U;have d4:Y+1+1+1<cC:=U;refine asD s2' s1' d1 d4 hq hdv hm @K4 @Nd.Yf.eq_1 o2.k.cells.2 o2.v.cells.2 o2.c.cells.2 ?_;rw[uh];obtain⟨bk1,ck1,Ak1,rfl,Ek1,gk1,_,tk1',_⟩:=o1.k.at hm;obtain⟨bk2,ck2,Ak2,rfl,Ek2,gk2,_,tk2,_⟩:=o2.k.at hm;obtain⟨bv1,cv1,Av1,rfl,Ev1,gv1,_,tv1⟩:∃b cap hc,H1= .sl b 0 (O n.bu) cap/\N W b=J (.cells hc 245)/\O n.bu<=cap/\O hc=cap*2/\hc.take (O n.bu*2)=n.bu.flatMap Hd.cells:=by
  obtain⟨_,e⟩|o:=o1.c;.rw[e]at Ji;simp at Ji
  .exact o
 obtain⟨bv2,cv2,Av2,rfl,Ev2,gv2,_,tv2⟩:∃b cap hc,H2= .sl b 0 (O n.bu) cap/\N F b=J (.cells hc 245)/\O n.bu<=cap/\O hc=cap*2/\hc.take (O n.bu*2)=n.bu.flatMap Hd.cells:=by
  obtain⟨_,e⟩|o:=o2.c;.rw[e]at Ji;simp at Ji
  .exact o
 have ik1:=o1.ik bk1 Z;have iv1:=o1.ic bv1 Z;have ik2:=o2.ik bk2 Z;have iv2:=o2.ic bv2 Z;have c1:n.nJ<=ck1:=U;have c2:n.nJ+1<=cv1:=U;have c3:¬(ck2=n.nJ+1):=U;have c4:¬(cv2=n.nJ+1):=U;simp+decide-dsimp only[go_sem,acC,s2',s1',d1,d2,d3,d4,hw,hm0,LP,arA,hlv',c1,c2,c3,c4,o1.v.cells.2,o2.v.cells.2,reduceAdd];refine .of ?_ (.nD ?_ ?_ .cg)
 .intro q hq
  repeat rw[Xg]
  rw[s2 q U]
  repeat rw[Xg]
  rw[s1 q U]
  repeat rw[Xg]
 .rw[K];refine .agg (.cons .cP (.cons (Fz.CO (e:=9) (λ_=>rfl) U (hc:=Ak1) ?_ tk1' rU mE) (.cons ((o1.v.aW λq e=>?_).fz (o1.iv.le U (an _)) mE) (.cons (Fz.CO (e:=245) iE U (hc:=Av1) ?_ tv1 hlv' sB) (.cons .cg (.cons .cP (.cons .cP (.cons .cP .nil))))))))
  .repeat rw[Xg]
   rw[s2 _ U]
   repeat rw[Xg]
   exact Ek1
  .have:=o1.iv q e
   repeat rw[Xg]
   rw[s2 _ U]
   repeat rw[Xg]
  .repeat rw[Xg]
   rw[s2 _ U]
   repeat rw[Xg]
   exact Ev1
 .rw[K];refine .agg (.cons .cP (.cons (Fz.Cr (e:=9) (λ_=>rfl) U (hc:=Ak2) ?_ tk2 U mE) (.cons ((o2.v.aW λq e=>?_).fz (o2.iv.le U (an _)) mE) (.cons (Fz.Cr (e:=245) iE U (hc:=Av2) ?_ tv2 U sB) (.cons .cg (.cons .cP (.cons .cP (.cons .cP .nil))))))))
  .repeat rw[Xg]
   exact Ek2
  .have:=o2.iv q e
   repeat rw[Xg]
  .repeat rw[Xg]
   exact Ev2
def k6{α:Type}:∀(n:Nat) (hc:List α),iS n hc=hc[n]?
 |0,[]=>rfl
 |0,_::_=>rfl
 |n+1,[]=>rfl
 |n+1,a::hc=>by show iS n hc=_;rw[k6 n hc];simp
def Ih{f:α->u}{l:List α}{d:α}(H:i<O l):iS (i*1) (l.map f)=J (f (l.getD i d)):=by rw[k6];simp[H,List.getD]
def art(fr:List Bool)(fb c h Y e)(hf:N h fb=J (.cells (fr.map bW) e))(K:O fr<65536)(w)(L:∃i,i<O fr/\fr.getD i (!w)=w):
 UP 169 [.sl fb 0 (O fr) c,bW w] h Y λv Q E=>∃i,i<O fr/\fr.getD i (!w)=w/\dG (int i) h Y v Q E:=by
 have⟨j,hj,hjt⟩:=L;refine az.ac 2 T0 func169 (Xf f169.eq_1 ?_);refine cI _ _ (λm s Q E=>∃i,i<=j/\m=j-i/\X s 0= .sl fb 0 (O fr) c/\X s 1=bW w/\X s 7=int (O fr)/\X s 8=int i/\Q=h/\E=Y) (n:=j) ?_ ?_;.refine QZ ?_;exact⟨0,aQ _,bR⟩
 rintro m s Q E ⟨i,H,rfl,s0,s1,s7,s8,rfl,rfl⟩;have uk:i<O fr:=U;have hn:=Ih (f:=bW) (d:= !w) uk;exact atp
def gn(n:Nat):u:=u64 n
structure bp where
 pb:Nat
 gb:Nat
 fb:Nat
 gs:List Nat
 fr:List Bool
structure bp.ok(p:bp)(h:aE)(Y:Nat):Prop where
 a:N h p.pb=J (.cells [.sl p.gb 0 (O p.fr) (O p.fr),.sl p.fb 0 (O p.fr) (O p.fr),int (p.fr.count M)] 137)
 g:N h p.gb=J (.cells (p.gs.map gn) 71)
 f:N h p.fb=J (.cells (p.fr.map bW) 4)
 len:O p.gs=O p.fr
 small:O p.fr<=4096
 ne1:¬(p.pb=p.gb)
 ne2:¬(p.pb=p.fb)
 ne3:¬(p.gb=p.fb)
 tD:p.pb<Y
 tJ:p.gb<Y
 tM:p.fb<Y
def aez(Y:Nat)(p:bp)(h Q:aE):Prop:=∀b,b<Y->b≠p.pb->b≠p.gb->b≠p.fb->N Q b=N h b
def Qv{fr:List Bool}(h:fr.count M≠0):∃i,i<O fr/\fr.getD i R=M:=by
 induction fr with
 |nil=>simp at h
 |cons b l ih=>
  cases b with
  |true=>exact⟨0,bR,Z⟩
  |false=>have⟨i,W,F⟩:=ih (Mf h);exact⟨i+1,by simpa using W,by simpa using F⟩
def count_set{fr:List Bool}(H:i<O fr)(ht:fr.getD i R=M):(fr.set i R).count M+1=fr.count M:=by
 induction fr generalizing i with
 |nil=>simp at H
 |cons b l ih=>
  cases i with
  |zero=>simp at ht;subst ht;simp
  |succ i=>have:=ih (i:=i) (Mf H) (Mf ht);cases b<;>simp<;>omega
def Hw{f:α->u}{l:List α}(H:i<O l)(x:α):eG (i*1) (l.map f) [f x]=J ((l.set i x).map f):=by
 rw[cG _ _ _ gr]
 congr 1
 simp only[df,bD,fx,fC,qj];rw[gG,au (Mf H)];simp
def TO(p:bp)(h Y)(ok:p.ok h Y)(n:Nat):UP 239 [.ptr p.pb 0,int n] h Y (dG (bW (decide (n<=p.fr.count M))) h Y):=by refine az.ac 2 T0 func239 (Y8 f239.eq_1 ok.a ?_);exact⟨Z,Z,Z⟩
def afK(p:bp)(h Y)(ok:p.ok h Y)(A:p.fr.count M≠0):UP 146 [.ptr p.pb 0] h Y λv Q E=>
 ∃i,i<O p.fr/\p.fr.getD i R=M/\v= .dY [(Hd.mk i (p.gs.getD i 0)).av,bW M]/\({p with fr:=p.fr.set i R}:bp).ok Q E/\aez Y p h Q:=by
 have mA:=ok.small;have zk:=GM (a:=M) (l:=p.fr);have LG:1<=p.fr.count M:=U;have NS:p.fr.count M<9223372036854775808:=U;refine az.ac 1 T0 func146 ?_;have l1:=ok.tD;have l2:=ok.tJ;have l3:=ok.tM;have d1:¬(p.pb=Y):=U;have d2:¬(p.gb=Y):=U;have d3:¬(p.fb=Y):=U;have n1:=ok.ne1;have n2:=ok.ne2;have n3:=ok.ne3;have n1':¬(p.gb=p.pb):=λe=>n1 e.symm;refine L6 f146.eq_1 d1 ok.a (U:¬((p.fr.count M:Int)=0)) ?_;refine cm (art p.fr p.fb _ _ _ 4 (by rw[Xg d3];exact ok.f) U M (Qv A)) λ_ Q E _ ⟨i,H,ht,e1,e2,e3⟩=>?_;subst e1;subst e2;subst e3;have hig:i<O p.gs:=ok.len▸H
 have hg:=Ih (f:=gn) (d:=0) hig;have hgn:gn (p.gs.getD i 0)=u64 (p.gs.getD i 0:Nat):=rfl;have aI:=Hw (f:=bW) H R;simp+decide-dsimp only[go_sem,d1,d2,d3,(U:¬(Y=p.pb)),(U:¬(Y=p.fb)),n2,n3,n1',ok.a,ok.g,ok.f,H,hg,hgn,aI,LG,NS,reduceAdd];refine⟨i,H,ht,Z,⟨?_,?_,?_,?_,?_,n1,n2,n3,Oa l1,Oa l2,Oa l3⟩,?_⟩;.have:=count_set H ht;rw[Xg d1,Sr];simp only[fG];rw[show(p.fr.set i R).count M=p.fr.count M-1 from U]
 .rw[Xg d2,Xg n1',Xg n3,Xg d2];exact ok.g
 .rw[Xg d3,Xg (λe=>n2 e.symm),Sr]
 .simp[ok.len]
 .show O (p.fr.set i R)<=_;simpa using ok.small
 .intro b D W F h3;rw[Xg,Xg W,Xg h3,Xg]
variable{et kt:TypeId}
structure iB(α:Type)where
 X:Nat
 bT:Nat
 aiw:Nat
 bo:Nat
 x:α
structure Ar(α:Type)where
 ab:Nat
 mb:Nat
 ck:Nat
 pb:Nat
 es:List (iB α)
def iB.row{α:Type}(e:iB α):u×u×Nat:=(int e.X,.ptr e.bT 0,e.aiw)
structure Ar.ok{α:Type}(enc:α->List u)(tA tC:TypeId)(a:Ar α)(h:aE)(Y:Nat):Prop where
 ar:N h a.ab=J (.cells [.ptr a.pb 0,.mp a.mb] tA)
 mp:N h a.mb=J (.map (a.es.map iB.row) a.ck)
 cl:∀e∈a.es,N h e.bT=J (.cells (u64 e.bo::enc e.x) tC)
 ng:(a.es.map iB.X).Nodup
 Ll:(a.es.map iB.bT).Nodup
 fr:∀e∈a.es,e.bT≠a.ab/\e.bT≠a.mb/\e.bT<Y
 ne:¬(a.ab=a.mb)
 la:a.ab<Y
 lm:a.mb<Y
def FQ(hd:Value)(es:Option (List (u×u×Nat)))(k:u)(ok:Bool):Option u:=match es with
 |some es=>found hd ok (jB (.int .i64) k es 0)
 |none=>B
def Ng{hd es k ok}:FQ hd (J es) k ok=found hd ok (jB (.int .i64) k es 0):=bQ Z
def acp(o:Option AO):Option (List (u×u×Nat)):=match o with
 |some (.map es _)=>J es
 |_=>B
def Ju{h b}:mapOf h (.mp b)=acp (N h b):=bQ Z
def tW{es c}:acp (J (.map es c))=J es:=bQ Z
def HW{hd h a k ok}(hu:P.underlying t=J (.map kt et))(hk:P.underlying kt=J (.int .i64))(hz:nE P et=J hd):nS P h t a k ok=FQ hd (mapOf h a) k ok:=by unfold nS FQ;simp only[hu,hk,hz,pE,cA];cases mapOf h a<;>rfl
def Q1(h:aE)(b:Nat)(o:Option AO)(k v:u):Option aE:=match o with
 |some (.map es clock)=>yZ h b es clock k v (jB (.int .i64) k es 0)
 |_=>B
def R8{h b es c k v}:Q1 h b (J (.map es c)) k v=yZ h b es c k v (jB (.int .i64) k es 0):=bQ Z
def LS{h b k v}(hu:P.underlying t=J (.map kt et))(hk:P.underlying kt=J (.int .i64)):sv P h t (.mp b) k v=Q1 h b (N h b) k v:=by
 unfold sv Q1;simp only[hu,hk,pE,cA];exact avo
def Cv(k s:Nat):za (.int .i64) (int k) (int s)=J (decide (k=s)):=by
 show Instr.sameNow (.int .i64) (.int .i64 k) (.int .i64 s)=_;simp only[Instr.sameNow,cA]
 congr 1
 by_cases e:k=s<;>simp[e];omega
def FZ{α:Type}{e:iB α}:∀(es:List (iB α)) (i:Nat),e∈es->(∀e'∈es,e'.X=e.X->e'.bT=e.bT)->∃j,jB (.int .i64) (int e.X) (es.map iB.row) i=J (J (j,.ptr e.bT 0))
 |[],_,h,_=>by cases h
 |f::es,i,h,hu=>by
  rw[cB,jB];show∃j,(match za (.int .i64) (int e.X) (int f.X)with|some M=>J (J (i,u.ptr f.bT 0))|some R=>jB (.int .i64) (int e.X) (es.map iB.row) (i+1)|none=>B)=_;rw[Cv];by_cases V:e.X=f.X;.simp only[V,rN];exact⟨i,by rw[hu f bR V.symm]⟩
  .simp only[V,ql];refine FZ es (i+1) ?_ λe' Q=>hu e' (by simp[Q]);obtain rfl|h:=bJ.1 h
   .exact absurd Z V
   .exact h
def xe{α:Type}{k:Nat}:∀(es:List (iB α)) (i:Nat),(∀e∈es,e.X≠k)->jB (.int .i64) (int k) (es.map iB.row) i=J B
 |[],_,_=>rfl
 |f::es,i,hm=>by rw[cB,jB];show(match za (.int .i64) (int k) (int f.X)with|some M=>J (J (i,u.ptr f.bT 0))|some R=>jB (.int .i64) (int k) (es.map iB.row) (i+1)|none=>B)=_;rw[Cv];have:¬k=f.X:=λh=>hm f bR h.symm;simp only[this,ql];exact xe es (i+1) λe h=>hm e (by simp[h])
def kK{α β:Type}{f:α->β}:∀{l:List α},(l.map f).Nodup->∀{a b:α},a∈l->b∈l->f a=f b->a=b
 |[],_,_,_,h,_,_=>by cases h
 |x::l,hn,a,b,ha,D,e=>by
  rw[cB,iG]at hn;rcases bJ.1 ha with W|ha<;>obtain F|D:=bJ.1 D
  .rw[W,F]
  .exact absurd (bg.2 ⟨b,D,by rw[<-e,W]⟩) hn.1
  .exact absurd (bg.2 ⟨a,ha,by rw[e,F]⟩) hn.1
  .exact kK hn.2 ha D e
def Eb{es:List (iB α)}(hn:(es.map iB.X).Nodup){e:iB α}(V:e∈es):∃j,jB (.int .i64) (int e.X) (es.map iB.row) 0=J (J (j,.ptr e.bT 0)):=
 FZ es 0 V λ_ Q e'=>by rw[kK hn Q V e']
def alm{h a k ok}:nS prog h 287 a k ok=FQ (.pointer B) (mapOf h a) k ok:=HW V4 Fy ad4
def aio{h b k v}:sv prog h 287 (.mp b) k v=Q1 h b (N h b) k v:=LS V4 Fy
def Sb{hd x ok}:found hd ok (J (J x))=J (if ok then .dY [x.2,bW M]else x.2):=bQ Z
def NJ{h b es c k v}:yZ h b es c k v (J B)=J (aI h b (.map (es++[(k,v,c)]) (c+1))):=bQ Z
attribute[go_sem] Sb NJ Ng Ju tW R8 alm aio
abbrev NAr.ok(a:Ar Nd)(h:aE)(Y:Nat):Prop:=Ar.ok Nd.cells 289 294 a h Y
def alg:=RB [(3,[MO z9 10,MO [] 11,RX]),(4,[MO z10 11,MO [] 12,RX])]
def aqH(a:Ar Nd)(h Y)(ok:NAr.ok a h Y)(e:iB Nd)(V:e∈a.es):UP 247 [.ptr a.ab 0,(Hd.mk e.X e.bo).av] h Y (dG (.dY [.ptr e.bT 0,bW M]) h Y):=by have⟨j,hj⟩:=Eb ok.ng V;have hf:=ok.fr e V;have X4:=ok.la;have RE:=ok.lm;refine az.pc 2 alg func247 ?_;have d1:¬(a.ab=Y):=U;have d2:¬(a.mb=Y):=U;have d3:¬(e.bT=Y):=U;simp+decide-dsimp only[f247,go_sem,alg,Hd.av,Hd.cells,ok.ar,ok.mp,ok.cl e V,d1,d2,d3,hj];exact .of (aG.refl.set (an _)) (.cw ⟨hf.2.2,trivial,trivial⟩)
def aod(a:Ar Nd)(h Y)(ok:NAr.ok a h Y)(e:iB Nd)(V:e∈a.es):UP 236 [.ptr a.ab 0,(Hd.mk e.X e.bo).av] h Y (dG (.dY [.ptr e.bT 1,bW M]) h Y):=by
 have hf:=ok.fr e V;refine az.pc 2 T0 func236 ?_;have LX:NAr.ok a (aI h Y (.cells (Hd.mk e.X e.bo).cells 245)) (Y+1):=by
  exact atm
 have c:=aqH a _ _ LX e V;rw[Hd.av,Hd.cells]at c;refine J7 f236.eq_1 @Hd.av.eq_1 @Hd.cells.eq_1 ?_;exact atC
structure Sep{α:Type}(a:Ar α)(p:bp):Prop where
 pb:a.pb=p.pb
 sa:a.ab≠p.pb/\a.ab≠p.gb/\a.ab≠p.fb
 sm:a.mb≠p.pb/\a.mb≠p.gb/\a.mb≠p.fb
 sc:∀e∈a.es,e.bT≠p.pb/\e.bT≠p.gb/\e.bT≠p.fb
 taken:∀e∈a.es,e.X<O p.fr/\p.fr.getD e.X R=R
def UE{α:Type}(Y:Nat)(a:Ar α)(p:bp)(h Q:aE):Prop:=∀b,b<Y->b≠p.pb->b≠p.gb->b≠p.fb->b≠a.mb->N Q b=N h b
def bp.ok.aW{p:bp}(o:p.ok h Y)(s:aG Y h Q)(hn:Y<=E):p.ok Q E:=
 ⟨by rw[s _ o.tD];exact o.a,by rw[s _ o.tJ];exact o.g,by rw[s _ o.tM];exact o.f,o.len,o.small,o.ne1,o.ne2,o.ne3,aP o.tD hn,aP o.tJ hn,aP o.tM hn⟩
def bp.ok.jw{p:bp}(o:p.ok h Y)(W:N Q p.pb=N h p.pb)(F:N Q p.gb=N h p.gb)(h3:N Q p.fb=N h p.fb)(hn:Y<=E):p.ok Q E:=
 ⟨by rw[W];exact o.a,by rw[F];exact o.g,by rw[h3];exact o.f,o.len,o.small,o.ne1,o.ne2,o.ne3,aP o.tD hn,aP o.tJ hn,aP o.tM hn⟩
def aiz:=RB [(6,[(z10,[3,5,7,8],J 11),RX])]
def aql(a:Ar Nd)(p:bp)(h Y)(ok:NAr.ok a h Y)(ug:p.ok h Y)(sp:Sep a p)(A:p.fr.count M≠0)(x):
 UP 129 [.ptr a.ab 0,.agg (Nd.cells x)] h Y λv Q E=>∃i bT,i<O p.fr/\p.fr.getD i R=M/\v= .dY [(Hd.mk i (p.gs.getD i 0)).av,int 0]/\
  ({p with fr:=p.fr.set i R}:bp).ok Q E/\NAr.ok {a with ck:=a.ck+1,es:=a.es++[⟨i,bT,a.ck,p.gs.getD i 0,x⟩]} Q E/\Y<=bT/\UE Y a p h Q:=by
 have l1:=ug.tD;have l2:=ug.tJ;have l3:=ug.tM;have X4:=ok.la;have RE:=ok.lm;have s1:=sp.sa;have s2:=sp.sm;refine az.ac 2 aiz func129 ?_;have d1:¬(a.ab=Y):=U;have d2:¬(a.ab=Y+1):=U;simp+decide-dsimp only[f129,go_sem,ok.ar,sp.pb,d1,d2];refine cm (afK p _ _ (ug.aW (aG.set (aG.set .refl (an _)) (bG _)) U) A) λ_ W cC l4 ⟨i,H,ht,e,q1,q2⟩=>?_;subst e;have k1:N W a.ab=J (.cells [.ptr p.pb 0,.mp a.mb] 289):=by rw[q2 _ U s1.1 s1.2.1 s1.2.2,Xg d2,Xg d1,ok.ar,sp.pb]
 have k2:N W a.mb=J (.map (a.es.map iB.row) a.ck):=by rw[q2 _ U s2.1 s2.2.1 s2.2.2,Xg U,Xg U,ok.mp]
 have k3:N W Y=J (.cells (Nd.cells x) 247):=by rw[q2 _ U U U U,Xg U,aj,au Z]
 have k4:N W (Y+1)=J (.cells [int 0,u64 0] 245):=by rw[q2 _ U U U U,aj,au Z]
 have d3:¬(a.ab=cC):=U;have d4:¬(a.mb=cC):=U;have d5:¬(Y=cC):=U;have d6:¬(Y+1=cC):=U;have d7:¬(a.ab=cC+1+10):=U;have d8:¬(a.mb=cC+1+10):=U;have d9:¬(Y=cC+1+10):=U;have d10:¬(Y+1=cC+1+10):=U;have d11:¬(cC=a.mb):=U;have d12:¬(Y+1=a.mb):=U;have hm:=xe (k:=i) a.es 0 λe V G=>by have:=(sp.taken e V).2;rw[G,ht]at this;cases this
 simp+decide-dsimp only[go_sem,aiz,Hd.av,Hd.cells,k1,k2,k3,k4,d3,d4,d5,d6,d7,d8,d9,d10,d11,d12,hm,Nd.cells,reduceAdd];exact atb
variable{s:Nat}
def kC:∀(a b:aY),a<b\/a=b\/b<a
 |[],[]=> .inr (.inl Z)
 |[],_::_=> .inl bR
 |_::_,[]=> FF bR
 |a::x,b::y=>by
  simp only[ef];have tri:a<b\/a=b\/b<a:=by
   exact auZ
  obtain h|h|h:=tri;.exact .inl (.inl h)
  .subst h;obtain h|h|h:=kC x y
   .exact .inl (.inr ⟨Z,h⟩)
   .exact .inr (.inl (by rw[h]))
   .exact Fe ⟨Z,h⟩
  .exact FF (.inl h)
def dT{a b c:aY}(W:a<b)(F:b<c):a<c:=List.lt_trans W F
def bU{a:aY}:¬a<a:=List.lt_irrefl a
def QB{a b c:aY}(W:a<b)(F:¬c<b):a<c:=by
 obtain h|h|h:=kC b c;.exact dT W h
 .subst h;exact W
 .exact absurd h F
def jV{a b c:aY}(W:¬b<a)(F:b<c):a<c:=by
 obtain h|h|h:=kC a b;.exact dT h F
 .subst h;exact F
 .exact absurd h W
def gD{a b c:aY}(W:¬b<a)(F:¬c<b):¬c<a:=λh=>by
 obtain h3|h3|h3:=kC b c;.exact W (dT h3 h)
 .subst h3;exact W h
 .exact F h3
def kF{a:aY}:¬a<[]:=bR
abbrev AA:=Nat->Option (Nat×Nd)
def jE(lo:Nat->aY)(s:Nat)(n:Nd)(i:Nat):aY:=if i=0 then lo s else n.aJ.getD (i-1) []
def kJ(n:Nd)(i:Nat):Bool:=if i<O n.aJ then M else n.bd
def lG(n:Nd)(i:Nat):aY:=if i<O n.aJ then n.aJ.getD i []else n.cQ
structure BI(Pk:aY->Prop)(σ:AA)(aO:Hd)(lo:Nat->aY)(lv:Nat->Nat)(iL:Nat->Prop):Prop where
 r:∀s g n,σ s=J (g,n)->n.zxQ
 small:∀s g n,σ s=J (g,n)->O n.aJ<=4\/(iL s/\O n.aJ=5)
 ay:∀s g n,σ s=J (g,n)->(n.ay=M↔lv s=0)
 cw:∀s g n,σ s=J (g,n)->∀i,i<O n.aJ->¬n.aJ.getD i []<lo s/\(n.ay=R->lo s<n.aJ.getD i [])
 oP:∀s g n,σ s=J (g,n)->n.bd=M->lo s<n.cQ
 kD:∀s g n,σ s=J (g,n)->n.ay=R->∀i,i<O n.bu->∃m,σ (n.bu.getD i default).X=J ((n.bu.getD i default).bo,m)/\lv (n.bu.getD i default).X+1=lv s/\
  lo (n.bu.getD i default).X=jE lo s n i/\m.bd=kJ n i/\m.cQ=lG n i
 next:∀s g n,σ s=J (g,n)->(n.bd=R->n.next=⟨0,0⟩)/\(n.bd=M->∃m,σ n.next.X=J (n.next.bo,m)/\lv n.next.X=lv s/\lo n.next.X=n.cQ)
 uniq:∀s g n s' g' n',σ s=J (g,n)->σ s'=J (g',n')->lv s=lv s'->s≠s'->(n.bd=M/\¬lo s'<n.cQ)\/(n'.bd=M/\¬lo s<n'.cQ)
 rt:∃n,σ aO.X=J (aO.bo,n)/\lo aO.X=[]/\n.bd=R
 aJ:∀s g n,σ s=J (g,n)->n.ay=M->∀k∈n.aJ,Pk k
 top:∀s g n,σ s=J (g,n)->lv s<=lv aO.X
def BI.nxl{Pk σ aO lo lv iL}(I:BI Pk σ aO lo lv iL){g n}(G:σ s=J (g,n))(K:n.ay=M)(D:n.bd=M):∃m,σ n.next.X=J (n.next.bo,m)/\m.ay=M/\lo n.next.X=n.cQ:=by have⟨m,a1,a2,a3⟩:=(I.next _ _ _ G).2 D;exact⟨m,a1,(I.ay _ _ _ a1).2 (a2.trans ((I.ay _ _ _ G).1 K)),a3⟩
def SF(lo:Nat->aY)(s:Nat)(n:Nd)(k:aY):Prop:=¬k<lo s/\n.eF k=M
def gS{n:Nd}{k}:n.eF k=M↔(n.bd=M->k<n.cQ):=by unfold Nd.eF;cases n.bd<;>simp
def Nd.zxQ.lt{n:Nd}(hR:n.zxQ):∀{i j:Nat},i<j->j<O n.aJ->n.aJ.getD i []<n.aJ.getD j []:=by
 intro i j EN hj
 induction j with
 |zero=>omega
 |succ j ih=>
  have W:=hR.sorted j hj;obtain h|h:=bB i j
  .exact dT (ih h U) W
  .have:i=j:=U;subst this;exact W
def KS{n:Nd}(hR:n.zxQ){k:aY}(h:0<n.jQ k):n.jQ k-1<O n.aJ/\¬k<n.aJ.getD (n.jQ k-1) []:=by
 have hp:=jD n.aJ k;unfold Nd.jQ at h⊢;cases hh:n.has k with
 |true=>
  have yW:place n.aJ k<O n.aJ/\n.aJ.getD (place n.aJ k) []=k:=by unfold Nd.has at hh;simpa using hh
  simp only[cA,gj];exact⟨yW.1,by rw[yW.2];exact bU⟩
 |false=>rw[hh]at h;simp only[du,cU,dP]at h⊢;exact⟨U,dA (wR _ _ _ U)⟩
def Ld{n:Nd}(hR:n.zxQ){k}(h:n.jQ k<O n.aJ):k<n.aJ.getD (n.jQ k) []:=by
 have hp:=jD n.aJ k;unfold Nd.jQ at h⊢;cases hh:n.has k with
 |true=>
  have yW:place n.aJ k<O n.aJ/\n.aJ.getD (place n.aJ k) []=k:=by unfold Nd.has at hh;simpa using hh
  rw[hh]at h;simp only[cA]at h⊢;have:=hR.sorted (place n.aJ k) h;rw[yW.2]at this;exact this
 |false=>
  rw[hh]at h;simp only[du,cU,dP]at h⊢;have W:=vZ _ _ h;rcases kC k (n.aJ.getD (place n.aJ k) [])with F|F|F
  .exact F
  .unfold Nd.has at hh;rw[aN h,aN F.symm]at hh;cases hh
  .exact absurd F W
def BI.down{Pk σ aO lo lv iL}(I:BI Pk σ aO lo lv iL){g n}(G:σ s=J (g,n))(K:n.ay=R){k}(A:SF lo s n k):
 ∃m,σ (n.bu.getD (n.jQ k) default).X=J ((n.bu.getD (n.jQ k) default).bo,m)/\lv (n.bu.getD (n.jQ k) default).X+1=lv s/\SF lo (n.bu.getD (n.jQ k) default).X m k:=by
 have hR:=I.r _ _ _ G;have⟨m,W,F,h3,h4,h5⟩:=I.kD _ _ _ G K _ (hR.Dy K k);refine⟨m,W,F,?_,?_⟩
 .rw[h3];unfold jE;split;.exact A.1
  .exact(KS hR U).2
 .rw[gS,h4,h5];unfold kJ lG;split;.rename_i h;intro _;exact Ld hR h
  .exact gS.1 A.2
def up{α:Type}(σ:Nat->Option (Nat×α))(s:Nat)(x:Nat×α):Nat->Option (Nat×α):=λt=>if t=s then J x else σ t
def dF{σ:Nat->Option (Nat×α)}{s x}:up σ s x s=J x:=au Z
def cT{σ:Nat->Option (Nat×α)}{s x t}(h:t≠s):up σ s x t=σ t:=ak h
def BI.upd{Pk σ aO lo lv iL big'}(I:BI Pk σ aO lo lv iL)(D:∀s,¬iL s){g:Nat}{n n':Nd}(G:σ s=some (g,n))(K:n.ay=true)(e1:n'.ay=true)(e2:n'.bd=n.bd)(e3:n'.cQ=n.cQ)(e4:n'.next=n.next)
 (hR:n'.zxQ) (lW:∀i,i<n'.aJ.length->¬n'.aJ.getD i []<lo s) (mA:n'.aJ.length<=4\/(big' s/\n'.aJ.length=5)) (hk:∀k∈n'.aJ,Pk k):BI Pk (up σ s (g,n')) aO lo lv big':=by
 have get:∀t g1 m,up σ s (g,n') t=some (g1,m)->(t=s/\g1=g/\m=n')\/(t≠s/\σ t=some (g1,m)):=by
  intro t g1 m h;by_cases ht:t=s;.subst ht;rw[dF]at h;injection h with h;injection h with W F;exact .inl ⟨rfl,W.symm,F.symm⟩
  .rw[cT ht]at h;exact .inr ⟨ht,h⟩
 have put:∀t g1 m,σ t=some (g1,m)->∃m',up σ s (g,n') t=some (g1,m')/\m'.bd=m.bd/\m'.cQ=m.cQ/\m'.ay=m.ay:=by
  intro t g1 m h;by_cases ht:t=s
  .subst ht;rw[G]at h;injection h with h;injection h with W F;subst W;subst F
   exact⟨n',dF,e2,e3,by rw[e1,K]⟩
  .exact⟨m,by rw[cT ht];exact h,Z,Z,Z⟩
 refine⟨λt g1 m h=>?_,λt g1 m h=>?_,λt g1 m h=>?_,λt g1 m h=>?_,λt g1 m h D=>?_,λt g1 m h mn i H=>?_,λt g1 m h=>?_,λt g1 m t' g1' m' h Q rU cD=>?_,?_,λt g1 m h mn=>?_,λt g1 m h=>?_⟩
 .obtain⟨rfl,rfl,rfl⟩|⟨_,h⟩:=get t g1 m h;.exact hR
  .exact I.r _ _ _ h
 .obtain⟨rfl,rfl,rfl⟩|⟨_,h⟩:=get t g1 m h;.exact mA
  .obtain h|h:=I.small _ _ _ h;.exact .inl h
   .exact absurd h.1 (D t)
 .obtain⟨rfl,rfl,rfl⟩|⟨_,h⟩:=get t g1 m h;.exact⟨λ_=>(I.ay _ _ _ G).1 K,λ_=>e1⟩
  .exact I.ay _ _ _ h
 .obtain⟨rfl,rfl,rfl⟩|⟨_,h⟩:=get t g1 m h;.exact λi H=>⟨lW i H,λh=>by rw[e1]at h;cases h⟩
  .exact I.cw _ _ _ h
 .obtain⟨rfl,rfl,rfl⟩|⟨_,h⟩:=get t g1 m h;.rw[e3];exact I.oP _ _ _ G (e2▸D)
  .exact I.oP _ _ _ h D
 .obtain⟨rfl,rfl,rfl⟩|⟨_,h⟩:=get t g1 m h;.rw[e1]at mn;cases mn
  .have⟨m',W,F,h3,h4,h5⟩:=I.kD _ _ _ h mn i H;have⟨m2,q1,q2,q3,_⟩:=put _ _ _ W;exact⟨m2,q1,F,h3,by rw[q2,h4],by rw[q3,h5]⟩
 .obtain⟨rfl,rfl,rfl⟩|⟨_,h⟩:=get t g1 m h;.rw[e2,e3,e4];refine⟨(I.next _ _ _ G).1,λD=>?_⟩;have⟨m',W,F,h3⟩:=(I.next _ _ _ G).2 D;have⟨m2,q1,_⟩:=put _ _ _ W;exact⟨m2,q1,F,h3⟩
  .refine⟨(I.next _ _ _ h).1,λD=>?_⟩;have⟨m',W,F,h3⟩:=(I.next _ _ _ h).2 D;have⟨m2,q1,_⟩:=put _ _ _ W;exact⟨m2,q1,F,h3⟩
 .rcases get t g1 m h with⟨a1,a2,a3⟩|⟨_,a⟩<;>obtain⟨b1,b2,b3⟩|⟨_,b⟩:=get t' g1' m' Q;.exact absurd (a1.trans b1.symm) cD
  .subst a1;subst a3;rw[e2,e3];exact I.uniq _ _ _ _ _ _ G b rU cD
  .subst b1;subst b3;rw[e2,e3];exact I.uniq _ _ _ _ _ _ a G rU cD
  .exact I.uniq _ _ _ _ _ _ a b rU cD
 .have⟨m,W,F,h3⟩:=I.rt;have⟨m2,q1,q2,_,_⟩:=put _ _ _ W;exact⟨m2,q1,F,by rw[q2,h3]⟩
 .obtain⟨rfl,rfl,rfl⟩|⟨_,h⟩:=get t g1 m h;.exact hk
  .exact I.aJ _ _ _ h mn
 .obtain⟨rfl,rfl,rfl⟩|⟨_,h⟩:=get t g1 m h;.exact I.top _ _ _ G
  .exact I.top _ _ _ h
variable{j:Nat}
theorem jj{l:List α}{d:α}(h:i<m):(l.take m).getD i d=l.getD i d:=by simp only[List.getD,gJ h]
theorem ou{l:List α}{d:α}:(l.drop m).getD i d=l.getD (m+i) d:=by simp only[List.getD,gh]
theorem mY{l:List α}{x:α}(h:i<=O l):O (ins l i x)=O l+1:=by unfold ins;simp;omega
theorem nM{l:List α}{x d:α}(h:j<i)(H:i<=O l):(ins l i x).getD j d=l.getD j d:=by unfold ins;simp only[List.getD];rw[bX gr,gJ h]
theorem ot{l:List α}{x d:α}(H:i<=O l):(ins l i x).getD i d=x:=by unfold ins;simp only[List.getD];rw[cE gr];have:i-(O (l.take i))=0:=gr;rw[this];rfl
theorem mf{l:List α}{x d:α}(h:i<j)(H:i<=O l):(ins l i x).getD j d=l.getD (j-1) d:=by
 unfold ins;simp only[List.getD];rw[cE gr];have:j-(O (l.take i))=(j-1-i)+1:=gr;rw[this,se,gh]
 congr 2;omega
theorem EA:∀(l:List aY) (k:aY) (i:Nat),i<=O l->(∀j,j<i->l.getD j []<k)->(i<O l->¬l.getD i []<k)->place l k=i
 |[],k,i,H,_,_=>by simp at H;subst H;rfl
 |x::l,k,i,H,W,F=>by
  unfold place;rw[mP];cases i with
  |zero=>have:=F bR;simp at this;simp[this]
  |succ i=>
   have L:x<k:=by simpa using W 0 U
   simp only[L,rN,cA,bD];have:=EA l k i (Mf H) (λj hj=>by simpa using W (j+1) U) (λh=>by simpa using F (Mf h));unfold place at this;omega
section
variable{n:Nd}(hR:n.zxQ)(h5:O n.aJ=5){x:Hd}
include hR h5
theorem pW:n.nJ=2:=by unfold Nd.nJ;rw[h5]
theorem HS:n.sep=n.aJ.getD 2 []:=by unfold Nd.sep;rw[pW hR h5]
theorem iY:(n.left x).aJ=n.aJ.take 2:=by show n.aJ.take n.nJ=_;rw[pW hR h5]
theorem rE:n.right.aJ=n.aJ.drop (if n.ay then 2 else 3):=by show n.aJ.drop (if n.ay then n.nJ else n.nJ+1)=_;rw[pW hR h5]
theorem Nd.zxQ.left:(n.left x).zxQ:=by
 have hk:=iY hR h5 (x:=x);have cf:O (n.left x).aJ=2:=by rw[hk,ax,h5];rfl
 refine⟨λi H=>?_,λi H=>?_,(λh=>by cases h),λh=>?_,λh=>?_,by rw[cf];omega⟩;.rw[cf]at H;rw[hk,jj U,jj U];exact hR.sorted i U
 .rw[cf]at H;rw[hk,jj U];show(!M||decide (n.aJ.getD i []<n.sep))=M;rw[HS hR h5];simpa using hR.lt (show i<2 from U) U
 .have h:n.ay=M:=h;have⟨e1,e2⟩:=hR.lf h;refine⟨?_,?_⟩;.rw[cf];show O (if n.ay then n.gZ.take n.nJ else n.gZ)=2;rw[h,au Z,pW hR h5,ax,e1,h5];rfl
  .show(if n.ay then n.bu else n.bu.take (n.nJ+1))=[];rw[h,au Z,e2]
 .have h:n.ay=R:=h;have⟨e1,e2⟩:=hR.nd h;refine⟨?_,?_⟩;.show(if n.ay then n.gZ.take n.nJ else n.gZ)=[];rw[h,e1];rfl
  .rw[cf];show O (if n.ay then n.bu else n.bu.take (n.nJ+1))=3;rw[h,ak bR,pW hR h5,ax,e2,h5];rfl
theorem oz:n.right.aJ.getD i []=n.aJ.getD ((if n.ay then 2 else 3)+i) []:=by rw[rE hR h5,ou]
theorem tQ:O n.right.aJ=5-(if n.ay then 2 else 3):=by rw[rE hR h5,aC,h5]
theorem Nd.zxQ.right:n.right.zxQ:=by
 have cf:=tQ hR h5;have z:(if n.ay=M then 2 else 3)<=3:=by split<;>omega
 refine⟨λi H=>?_,λi H=>?_,hR.H,λh=>?_,λh=>?_,by rw[cf];omega⟩;.rw[oz hR h5,oz hR h5];exact hR.lt U (Es h5)
 .rw[oz hR h5];exact hR.xP _ (Es h5)
 .have h:n.ay=M:=h;have⟨e1,e2⟩:=hR.lf h;refine⟨?_,?_⟩;.rw[cf,h];show O (if n.ay then n.gZ.drop n.nJ else n.gZ)=_;rw[h,au Z,pW hR h5,aC,e1,h5];rfl
  .show(if n.ay then n.bu else n.bu.drop (n.nJ+1))=[];rw[h,au Z,e2]
 .have h:n.ay=R:=h;have⟨e1,e2⟩:=hR.nd h;refine⟨?_,?_⟩;.show(if n.ay then n.gZ.drop n.nJ else n.gZ)=[];rw[h,e1];rfl
  .rw[cf,h];show O (if n.ay then n.bu else n.bu.drop (n.nJ+1))=_;rw[h,ak bR,pW hR h5,aC,e2,h5];rfl
end
theorem Nd.zxQ.add{n:Nd}(hR:n.zxQ)(K:n.ay=R)(cf:O n.aJ<=4){k}(A:n.eF k=M)(hh:n.has k=R)(x):(n.add k x).zxQ:=by
 have⟨e1,e2⟩:=hR.nd K;have hp:=jD n.aJ k;have mJ:O (n.add k x).aJ=O n.aJ+1:=mY hp;have hgt:place n.aJ k<O n.aJ->k<n.aJ.getD (place n.aJ k) []:=λh=>by
  have:=vZ n.aJ k h;rcases kC k (n.aJ.getD (place n.aJ k) [])with q|q|q
  .exact q
  .unfold Nd.has at hh;rw[aN h,aN q.symm]at hh;cases hh
  .exact absurd q this
 refine⟨λi H=>?_,λi H=>?_,hR.H,(λh=>by rw[show(n.add k x).ay=n.ay from Z,K]at h;cases h),λ_=>⟨e1,?_⟩,by rw[mJ];omega⟩
 .rw[mJ]at H;show(ins n.aJ _ k).getD i []<(ins n.aJ _ k).getD (i+1) [];rcases cF (i+1) (place n.aJ k)with h|h|h
  .rw[nM U hp,nM h hp];exact hR.sorted i U
  .rw[nM U hp,<-h,ot U];exact wR _ _ _ U
  .obtain Q|Q:=bB (place n.aJ k) i;.rw[mf Q hp,mf U hp];have:=hR.sorted (i-1) U;rw[show i-1+1=i from U]at this;exact this
   .have:i=place n.aJ k:=U;rw[this,ot hp,mf U hp,gj];exact hgt U
 .rw[mJ]at H;show(!n.bd||decide ((ins n.aJ _ k).getD i []<n.cQ))=M;rcases cF i (place n.aJ k)with h|h|h
  .rw[nM h hp];exact hR.xP i U
  .rw[h,ot hp];exact A
  .rw[mf h hp];exact hR.xP _ U
 .show O (ins n.bu _ x)=_;rw[mY U,mJ,e2]
variable{gu:Nat}{nu:Nd}
def CK{lo}{n:Nd}(hR:n.zxQ)(lW:∀i,i<O n.aJ->lo s<n.aJ.getD i [])(H:i<=O n.aJ):¬jE lo s n i<lo s:=by
 unfold jE;split;.exact bU
 .exact dA (lW (i-1) U)
def CQ{n:Nd}(hR:n.zxQ){k}(hk:kJ n i=M->k<lG n i)(D:n.bd=M):k<n.cQ:=by
 unfold kJ lG at hk;split at hk;.rename_i h;refine dT (hk Z) ?_;have:=hR.xP i h;rw[D]at this;simpa using this
 .exact hk D
section
variable{Pk:aY->Prop}{σ:AA}{aO:Hd}{lo:Nat->aY}{lv:Nat->Nat}{iL:Nat->Prop}
def O7{lo}{n:Nd}(hR:n.zxQ)(lW:∀i,i<O n.aJ->lo s<n.aJ.getD i [])(EN:i<j)(hj:j<=O n.aJ):jE lo s n i<jE lo s n j:=by
 unfold jE;rw[ak (show¬j=0 from U)];split;.exact lW _ U
 .exact hR.lt U U
def DG{lo}{n:Nd}(hR:n.zxQ)(lW:∀i,i<O n.aJ->lo s<n.aJ.getD i [])(H:i<=O n.aJ)(hj:j<=O n.aJ)(V:jE lo s n i=jE lo s n j):i=j:=by
 obtain h|h|h:=cF i j;.exact absurd (O7 hR lW h hj) (V▸bU)
 .exact h
 .exact absurd (O7 hR lW h H) (V▸bU)
def BI.one(I:BI Pk σ aO lo lv iL){AV t gt nt}(hu:σ AV=J (gu,nu))(ht:σ t=J (gt,nt))(ul:nu.ay=R)(tl:nt.ay=R)(H:i<O nu.bu)(hj:j<O nt.bu)
 (V:(nu.bu.getD i default).X=(nt.bu.getD j default).X):t=AV:=by
 have⟨m,W,F,h3,h4,h5⟩:=I.kD _ _ _ hu ul i H;have⟨m',q1,q2,q3,q4,q5⟩:=I.kD _ _ _ ht tl j hj;rw[<-V]at q1 q2 q3;rw[W]at q1;injection q1 with q1;injection q1 with q0 q1;subst q1;by_cases cD:t=AV;.exact cD
 exfalso;have AU:=I.r _ _ _ hu;have hRt:=I.r _ _ _ ht
 have iu:i<=O nu.aJ:=EB ((AU.nd ul).2)
 have a1:¬lo (nu.bu.getD i default).X<lo AV:=h3▸(CK AU (λi H=>(I.cw _ _ _ hu i H).2 ul) iu)
 have a2:¬lo (nu.bu.getD i default).X<lo t:=q3▸(CK hRt (λi H=>(I.cw _ _ _ ht i H).2 tl) (EB ((hRt.nd tl).2)))
 have b:m.bd=M->lo (nu.bu.getD i default).X<m.cQ:=I.oP _ _ _ W;obtain⟨e1,e2⟩|⟨e1,e2⟩:=I.uniq _ _ _ _ _ _ ht hu U cD
 .exact e2 (jV a1 ((CQ hRt (i:=j) (λh=>by rw[<-q5];exact b (q4▸h))) e1))
 .exact e2 (jV a2 ((CQ AU (i:=i) (λh=>by rw[<-h5];exact b (h4▸h))) e1))
def BI.split{s g AV gu i n nu}{x:Hd}(I:BI Pk σ aO lo lv (· =s))(G:σ s=J (g,n))(h5:O n.aJ=5)(L:σ x.X=B)(hu:σ AV=J (gu,nu))(ul:nu.ay=R)
 (H:i<O nu.bu) (hk:nu.bu.getD i default=⟨s,g⟩) (hr:aO.X≠s):
 nu.eF n.sep=M/\nu.has n.sep=R/\BI Pk (up (up (up σ s (g,n.left x)) x.X (x.bo,n.right)) AV (gu,nu.add n.sep x)) aO (λt=>if t=x.X then n.sep else lo t) (λt=>if t=x.X then lv s else lv t) (· =AV):=by
 have tg:=I.r _ _ _ G;have AU:=I.r _ _ _ hu;have⟨m,k1,k2,k3,k4,k5⟩:=I.kD _ _ _ hu ul i H;rw[hk]at k1 k2 k3;rw[show σ (Hd.mk s g).X=σ s from Z,G]at k1;injection k1 with k1;injection k1 with _ k1;subst k1
 have k2:lv s+1=lv AV:=k2;have k3:lo s=jE lo AV nu i:=k3;have hsu:s≠AV:=λe=>by subst e;omega
 have kU:x.X≠s:=λe=>by rw[e,G]at L;cases L
 have tI:x.X≠AV:=λe=>by rw[e,hu]at L;cases L
 have lu:∀i,i<O nu.aJ->lo AV<nu.aJ.getD i []:=λi H=>(I.cw _ _ _ hu i H).2 ul;have iu:i<=O nu.aJ:=EB ((AU.nd ul).2)
 have afh:O nu.aJ<=4:=by
  rcases I.small _ _ _ hu with h|h;.exact h
  .exact absurd h.1.symm hsu
 have uh:n.sep=n.aJ.getD 2 []:=HS tg h5;have f1:lo s<n.sep:=by rw[uh];exact jV (I.cw _ _ _ G 0 U).1 (tg.lt U U)
 have f2:n.bd=M->n.sep<n.cQ:=λh=>by have:=tg.xP 2 U;rw[h,<-uh]at this;simpa using this
 have f3:¬lo s<lo AV:=by rw[k3];exact CK AU lu iu
 have yW:place nu.aJ n.sep=i:=by
  refine EA _ _ _ iu (λj hj=>?_) (λh=>?_)
  .have e:lo s=nu.aJ.getD (i-1) []:=by rw[k3];unfold jE;rw[ak U]
   rcases bB j (i-1)with h|h;.exact dT (AU.lt h U) (e▸f1)
   .have:j=i-1:=U;rw[this,<-e];exact f1
  .have e:n.cQ=nu.aJ.getD i []:=by rw[k5];unfold lG;rw[au h]
   have eb:n.bd=M:=by rw[k4];unfold kJ;rw[au h]
   rw[<-e];exact dA (f2 eb)
 have pG:nu.eF n.sep=M:=gS.2 (CQ AU (i:=i) λh=>by rw[<-k5];exact f2 (k4▸h));have Ip:nu.has n.sep=R:=by
  unfold Nd.has;rw[yW];by_cases h:i<O nu.aJ
  .have e:n.cQ=nu.aJ.getD i []:=by rw[k5];unfold lG;rw[au h]
   have eb:n.bd=M:=by rw[k4];unfold kJ;rw[au h]
   have:¬nu.aJ.getD i []=n.sep:=λq=>by rw[<-e]at q;exact bU (q▸f2 eb)
   rw[aU this,x9]
  .rw[aU h,pS]
 refine⟨pG,Ip,?_⟩;have pF:(nu.add n.sep x).aJ=ins nu.aJ i n.sep:=by show ins nu.aJ (place nu.aJ n.sep) n.sep=_;rw[yW]
 have KW:(nu.add n.sep x).bu=ins nu.bu (i+1) x:=by show ins nu.bu (place nu.aJ n.sep+1) x=_;rw[yW]
 have oI:O (nu.add n.sep x).aJ=O nu.aJ+1:=by rw[pF,mY iu]
 have Vv:O (nu.add n.sep x).bu=O nu.bu+1:=by rw[KW,mY U]
 have vB:∀t,t≠x.X->(if t=x.X then n.sep else lo t)=lo t:=λt h=>ak h;have tf:∀t,t≠x.X->(if t=x.X then lv s else lv t)=lv t:=λt h=>ak h;have old:∀{t g1 m},σ t=J (g1,m)->t≠x.X:=λh e=>by rw[e,L]at h;cases h
 have gu':up (up (up σ s (g,n.left x)) x.X (x.bo,n.right)) AV (gu,nu.add n.sep x) AV=J (gu,nu.add n.sep x):=dF;have Mb:up (up (up σ s (g,n.left x)) x.X (x.bo,n.right)) AV (gu,nu.add n.sep x) x.X=J (x.bo,n.right):=by rw[cT tI,dF]
 have CF:up (up (up σ s (g,n.left x)) x.X (x.bo,n.right)) AV (gu,nu.add n.sep x) s=J (g,n.left x):=by rw[cT hsu,cT kU.symm,dF]
 have go':∀t,t≠AV->t≠x.X->t≠s->up (up (up σ s (g,n.left x)) x.X (x.bo,n.right)) AV (gu,nu.add n.sep x) t=σ t:=λt W F h3=>by rw[cT W,cT F,cT h3]
 generalize hσ':up (up (up σ s (g,n.left x)) x.X (x.bo,n.right)) AV (gu,nu.add n.sep x)=σ' at gu' Mb CF go';have get:∀{t g1 m},σ' t=J (g1,m)->(t=AV/\g1=gu/\m=nu.add n.sep x)\/(t=x.X/\g1=x.bo/\m=n.right)\/(t=s/\g1=g/\m=n.left x)\/((t≠AV/\t≠x.X/\t≠s)/\σ t=J (g1,m)):=by
  intro t g1 m h;by_cases W:t=AV;.subst W;rw[gu']at h;injection h with h;injection h with q1 q2;exact .inl ⟨Z,q1.symm,q2.symm⟩
  by_cases F:t=x.X;.subst F;rw[Mb]at h;injection h with h;injection h with q1 q2;exact .inr (.inl ⟨Z,q1.symm,q2.symm⟩)
  by_cases h3:t=s;.subst h3;rw[CF]at h;injection h with h;injection h with q1 q2;exact FF (.inl ⟨Z,q1.symm,q2.symm⟩)
  .rw[go' t W F h3]at h;exact Fe ⟨⟨W,F,h3⟩,h⟩
 have put:∀{t g1 m},σ t=J (g1,m)->∃m',σ' t=J (g1,m')/\(t≠s->m'.bd=m.bd/\m'.cQ=m.cQ)/\m'.ay=m.ay:=by
  intro t g1 m h;by_cases W:t=AV
  .subst W;rw[hu]at h;injection h with h;injection h with q1 q2;subst q1;subst q2
   exact⟨_,gu',λ_=>⟨Z,Z⟩,Z⟩
  by_cases h3:t=s
  .exact auN
  .exact⟨m,by rw[go' t W (old h) h3];exact h,λ_=>⟨Z,Z⟩,Z⟩
 have xY:=tQ tg h5;have Jd:O (n.left x).aJ=2:=by rw[iY tg h5,ax,h5];rfl
 have ym:∀i,i<O n.bu->n.ay=R->∃m',σ' (n.bu.getD i default).X=J ((n.bu.getD i default).bo,m')/\(n.bu.getD i default).X≠x.X/\lv (n.bu.getD i default).X+1=lv s/\lo (n.bu.getD i default).X=jE lo s n i/\m'.bd=kJ n i/\m'.cQ=lG n i:=by
  exact atJ
 refine⟨λt g1 m h=>?_,λt g1 m h=>?_,λt g1 m h=>?_,λt g1 m h=>?_,λt g1 m h D=>?_,λt g1 m h mn j hj=>?_,λt g1 m h=>?_,λt g1 m t' g1' m' h Q rU cD=>?_,?_,λt g1 m h mn=>?_,λt g1 m h=>?_⟩
 .rcases get h with⟨rfl,rfl,rfl⟩|⟨rfl,rfl,rfl⟩|⟨rfl,rfl,rfl⟩|⟨_,h⟩;.exact AU.add ul afh pG Ip x
  .exact Nd.zxQ.right tg h5
  .exact Nd.zxQ.left tg h5
  .exact I.r _ _ _ h
 .rcases get h with⟨rfl,rfl,rfl⟩|⟨rfl,rfl,rfl⟩|⟨rfl,rfl,rfl⟩|⟨cD,h⟩
  .rw[oI];rcases bB (O nu.aJ) 4 with h|h
   .exact .inl U
   .exact .inr ⟨Z,U⟩
  .left;rw[xY];split<;>omega
  .left;rw[Jd];omega
  .rcases I.small _ _ _ h with h|h;.exact .inl h
   .exact absurd h.1 cD.2.2
 .rcases get h with⟨rfl,rfl,rfl⟩|⟨rfl,rfl,rfl⟩|⟨rfl,rfl,rfl⟩|⟨cD,h⟩;.rw[tf _ tI.symm];exact show nu.ay=M↔_ from I.ay _ _ _ hu
  .rw[au Z];exact avh
  .rw[tf _ kU.symm];exact avh
  .rw[tf _ cD.2.1];exact I.ay _ _ _ h
 .rcases get h with⟨rfl,rfl,rfl⟩|⟨rfl,rfl,rfl⟩|⟨rfl,rfl,rfl⟩|⟨cD,h⟩
  .intro j hj;rw[vB _ tI.symm,pF];rw[oI]at hj;have:lo t<(ins nu.aJ i n.sep).getD j []:=by
    rcases cF j i with q|q|q;.rw[nM q iu];exact lu _ U
    .rw[q,ot iu];exact jV f3 f1
    .rw[mf q iu];exact lu _ U
   exact⟨dA this,λ_=>this⟩
  .intro j hj;rw[au Z,oz tg h5,uh];exact atx
  .intro j hj;rw[Jd]at hj;rw[vB _ kU.symm,iY tg h5,jj hj];exact I.cw _ _ _ G j U
  .rw[vB _ cD.2.1];exact I.cw _ _ _ h
 .rcases get h with⟨rfl,rfl,rfl⟩|⟨rfl,rfl,rfl⟩|⟨rfl,rfl,rfl⟩|⟨cD,h⟩;.rw[vB _ tI.symm];exact show lo _<nu.cQ from I.oP _ _ _ hu D
  .rw[au Z];exact f2 D
  .rw[vB _ kU.symm];exact f1
  .rw[vB _ cD.2.1];exact I.oP _ _ _ h D
 .rcases get h with⟨rfl,rfl,rfl⟩|⟨rfl,rfl,rfl⟩|⟨rfl,rfl,rfl⟩|⟨cD,h⟩
  .rw[Vv]at hj;rw[KW];have kin:∀q,q<O nu.bu->q≠i->∃m',σ' (nu.bu.getD q default).X=J ((nu.bu.getD q default).bo,m')/\(nu.bu.getD q default).X≠x.X/\lv (nu.bu.getD q default).X+1=lv t/\lo (nu.bu.getD q default).X=jE lo t nu q/\m'.bd=kJ nu q/\m'.cQ=lG nu q:=by
    intro q hq hqi;have⟨m',W,F,h3,h4,h5⟩:=I.kD _ _ _ hu ul q hq;have cD:(nu.bu.getD q default).X≠s:=λe=>by rw[e,k3]at h3;have:=(AU.nd ul).2;exact hqi (DG AU lu iu U h3).symm
    have⟨m2,p1,p2,_⟩:=put W;exact⟨m2,p1,old W,F,h3,by rw[(p2 cD).1,h4],by rw[(p2 cD).2,h5]⟩
   have ukl:=(AU.nd ul).2;rcases cF j (i+1)with q|q|q
   .rw[nM q U];have eL:jE (λt=>if t=x.X then n.sep else lo t) t (nu.add n.sep x) j=jE lo t nu j:=by
     unfold jE;simp only[vB _ tI.symm,pF];split;.rfl
     .rw[nM U iu]
    by_cases hji:j=i
    .subst hji;rw[hk];refine⟨n.left x,CF,?_,?_,?_,?_⟩;.rw[tf _ kU.symm,tf _ tI.symm];exact k2
     .rw[vB _ kU.symm,eL];exact k3
     .unfold kJ;rw[au (Es oI)];rfl
     .unfold lG;rw[au (Es oI),pF,ot iu];rfl
    .have⟨m',p1,p2,p3,p4,p5,p6⟩:=kin j U hji;refine⟨m',p1,?_,?_,?_,?_⟩;.rw[tf _ p2,tf _ tI.symm,p3]
     .rw[vB _ p2,eL,p4]
     .rw[p5];unfold kJ;rw[au U,au (Es oI)]
     .rw[p6];unfold lG;rw[au U,au (Es oI),pF,nM U iu]
   .subst q;rw[ot U];refine⟨n.right,Mb,?_,?_,?_,?_⟩;.rw[au Z,tf _ tI.symm];exact k2
    .rw[au Z];unfold jE;rw[ak U,pF,gj,ot iu]
    .show n.bd=_;rw[k4];unfold kJ;rw[oI];by_cases h:i<O nu.aJ;.rw[au h,au U]
     .rw[ak h,ak U];rfl
    .show n.cQ=_;rw[k5];unfold lG;rw[oI,pF];by_cases h:i<O nu.aJ;.rw[au h,au U,mf U iu,gj]
     .rw[ak h,ak U];rfl
   .rw[mf q U];have⟨m',p1,p2,p3,p4,p5,p6⟩:=kin (j-1) U U;refine⟨m',p1,?_,?_,?_,?_⟩;.rw[tf _ p2,tf _ tI.symm,p3]
    .rw[vB _ p2,p4];unfold jE;rw[ak U,ak U,pF,mf U iu]
    .rw[p5];unfold kJ;rw[oI];by_cases h:j<O nu.aJ+1;.rw[au U,au h]
     .rw[ak U,ak h];rfl
    .rw[p6];unfold lG;rw[oI,pF];by_cases h:j<O nu.aJ+1;.rw[au U,au h,mf U iu]
     .rw[ak U,ak h];rfl
  .have K:n.ay=R:=mn;have ek:n.right.bu=n.bu.drop 3:=by show(if n.ay then n.bu else n.bu.drop (n.nJ+1))=_;rw[K,ak bR,pW tg h5]
   have nkl:=(tg.nd K).2;rw[ek]at hj⊢;rw[aC]at hj;rw[ou];have⟨m',p1,p2,p3,p4,p5,p6⟩:=ym (3+j) U K;rw[K]at xY;simp only[du,cU]at xY;have eg:∀q,n.right.aJ.getD q []=n.aJ.getD (3+q) []:=λq=>by rw[oz tg h5,K];rfl
   refine⟨m',p1,?_,?_,?_,?_⟩;.rw[tf _ p2,au Z,p3]
   .rw[vB _ p2,p4];unfold jE;rw[ak U];simp only[cA];split;.rename_i e;subst e;exact uh.symm
    .rw[eg];congr 1;omega
   .rw[p5];unfold kJ;rw[xY];exact auC
   .rw[p6];unfold lG;rw[xY,eg];exact auC
  .have K:n.ay=R:=mn;have ek:(n.left x).bu=n.bu.take 3:=by show(if n.ay then n.bu else n.bu.take (n.nJ+1))=_;rw[K,ak bR,pW tg h5]
   have nkl:=(tg.nd K).2;rw[ek]at hj⊢;rw[ax]at hj;rw[jj U];have⟨m',p1,p2,p3,p4,p5,p6⟩:=ym j U K;refine⟨m',p1,?_,?_,?_,?_⟩;.rw[tf _ p2,tf _ kU.symm,p3]
   .rw[vB _ p2,p4];unfold jE;simp only[vB _ kU.symm,iY tg h5];split;.rfl
    .rw[jj U]
   .rw[p5];unfold kJ;rw[au U];split<;>rfl
   .exact auK
  .have⟨m',W,F,h3,h4,h5⟩:=I.kD _ _ _ h mn j hj;have Yg:(m.bu.getD j default).X≠s:=λe=>cD.1 (I.one hu h ul mn H hj (hk▸e.symm));have⟨m2,p1,p2,_⟩:=put W;refine⟨m2,p1,?_,?_,by rw[(p2 Yg).1,h4],by rw[(p2 Yg).2,h5]⟩;.rw[tf _ (old W),tf _ cD.2.1,F]
   .rw[vB _ (old W),h3];unfold jE;simp only[vB _ cD.2.1]
 .obtain⟨rfl,rfl,rfl⟩|⟨rfl,rfl,rfl⟩|⟨rfl,rfl,rfl⟩|⟨cD,h⟩:=get h;.refine⟨(I.next _ _ _ hu).1,λD=>?_⟩;have⟨m',W,F,h3⟩:=(I.next _ _ _ hu).2 D;have⟨m2,p1,_⟩:=put W;exact⟨m2,p1,(tf nu.next.X (old W)).trans (F.trans (tf _ tI.symm).symm),(vB nu.next.X (old W)).trans h3⟩
  .refine⟨(I.next _ _ _ G).1,λD=>?_⟩;have⟨m',W,F,h3⟩:=(I.next _ _ _ G).2 D;have⟨m2,p1,_⟩:=put W;exact⟨m2,p1,(tf n.next.X (old W)).trans (F.trans (au Z).symm),(vB n.next.X (old W)).trans h3⟩
  .exact⟨(λh=>by cases h),λ_=>⟨_,Mb,(au Z).trans (tf _ kU.symm).symm,au Z⟩⟩
  .refine⟨(I.next _ _ _ h).1,λD=>?_⟩;have⟨m',W,F,h3⟩:=(I.next _ _ _ h).2 D;have⟨m2,p1,_⟩:=put W;exact⟨m2,p1,(tf _ (old W)).trans (F.trans (tf _ cD.2.1).symm),(vB _ (old W)).trans h3⟩
 .have src:∀{t g1 m},σ' t=J (g1,m)->∃q go no,σ q=J (go,no)/\(if t=x.X then lv s else lv t)=lv q/\(¬(if t=x.X then n.sep else lo t)<lo q)/\(no.bd=M->m.bd=M/\¬no.cQ<m.cQ)/\(q=t\/(q=s/\t=x.X)):=by
   intro t g1 m h;obtain⟨rfl,rfl,rfl⟩|⟨rfl,rfl,rfl⟩|⟨rfl,rfl,rfl⟩|⟨cD,h⟩:=get h
   .exact⟨t,_,_,hu,tf _ tI.symm,by rw[vB _ tI.symm];exact bU,λh=>⟨h,bU⟩,.inl Z⟩
   .exact⟨s,_,_,G,au Z,by rw[au Z];exact dA f1,λh=>⟨h,bU⟩,.inr ⟨Z,Z⟩⟩
   .exact⟨t,_,_,G,tf _ kU.symm,by rw[vB _ kU.symm];exact bU,λh=>⟨Z,dA (f2 h)⟩,.inl Z⟩
   .exact⟨t,_,_,h,tf _ cD.2.1,by rw[vB _ cD.2.1];exact bU,λh=>⟨h,bU⟩,.inl Z⟩
  have⟨q,go,no,a1,a2,a3,a4,a5⟩:=src h;have⟨q',go',no',b1,b2,b3,b4,b5⟩:=src Q;by_cases hq:q=q'
  .subst hq;have:(t=s/\t'=x.X)\/(t=x.X/\t'=s):=by
    exact atr
   obtain⟨rfl,rfl⟩|⟨rfl,rfl⟩:=this
   .rw[CF]at h;injection h with h;injection h with _ h;subst h
    exact .inl ⟨Z,by rw[au Z];exact bU⟩
   .rw[CF]at Q;injection Q with Q;injection Q with _ Q;subst Q
    exact .inr ⟨Z,by rw[au Z];exact bU⟩
  .exact atL
 .have⟨m,W,F,h3⟩:=I.rt;have⟨m2,p1,p2,_⟩:=put W;exact⟨m2,p1,by rw[vB _ (old W)];exact F,by rw[(p2 hr).1,h3]⟩
 .obtain⟨rfl,rfl,rfl⟩|⟨rfl,rfl,rfl⟩|⟨rfl,rfl,rfl⟩|⟨_,h⟩:=get h;.rw[show(nu.add n.sep x).ay=nu.ay from Z,ul]at mn;cases mn
  .intro k hk;rw[rE tg h5]at hk;exact I.aJ _ _ _ G mn k (ju hk)
  .intro k hk;rw[iY tg h5]at hk;exact I.aJ _ _ _ G mn k (fe hk)
  .exact I.aJ _ _ _ h mn
 .have⟨mr,r1,_⟩:=I.rt;rw[tf _ (old r1)];obtain⟨rfl,rfl,rfl⟩|⟨rfl,rfl,rfl⟩|⟨rfl,rfl,rfl⟩|⟨cD,h⟩:=get h;.rw[tf _ tI.symm];exact I.top _ _ _ hu
  .rw[au Z];exact I.top _ _ _ G
  .rw[tf _ kU.symm];exact I.top _ _ _ G
  .rw[tf _ cD.2.1];exact I.top _ _ _ h
def sW(k:aY)(a b:Hd):Nd:={ay:=R,aJ:=[k],gZ:=[],bu:=[a,b],cQ:=[],bd:=R,next:=⟨0,0⟩}
def BI.Qb{g n}{x y:Hd}(I:BI Pk σ aO lo lv (· =s))(G:σ s=J (g,n))(h5:O n.aJ=5)(L:σ x.X=B)(hy:σ y.X=B)(Ie:x.X≠y.X)(hr:aO=⟨s,g⟩):
 BI Pk (up (up (up σ s (g,n.left x)) x.X (x.bo,n.right)) y.X (y.bo,sW n.sep aO x)) y (λt=>if t=y.X then[]else if t=x.X then n.sep else lo t) (λt=>if t=y.X then lv s+1 else if t=x.X then lv s else lv t) (λ_=>False):=by
 have tg:=I.r _ _ _ G;have kU:x.X≠s:=λe=>by rw[e,G]at L;cases L
 have CR:y.X≠s:=λe=>by rw[e,G]at hy;cases hy
 have uh:n.sep=n.aJ.getD 2 []:=HS tg h5;have⟨mr,r1,r2,r3⟩:=I.rt;rw[hr]at r1 r2;rw[show σ (Hd.mk s g).X=σ s from Z,G]at r1;injection r1 with r1;injection r1 with _ r1;subst r1
 have r2:lo s=[]:=r2;have mB:n.bd=R:=r3;have top:∀t g1 m,σ t=J (g1,m)->lv t<=lv s:=λt g1 m h=>by have:=I.top _ _ _ h;rw[hr]at this;exact this
 have f1:lo s<n.sep:=by rw[uh];exact jV (I.cw _ _ _ G 0 U).1 (tg.lt U U)
 have old:∀{t g1 m},σ t=J (g1,m)->t≠x.X/\t≠y.X:=λh=>⟨(λe=>by rw[e,L]at h;cases h),(λe=>by rw[e,hy]at h;cases h)⟩;have vB:∀t,t≠x.X->t≠y.X->(if t=y.X then([]:aY)else if t=x.X then n.sep else lo t)=lo t:=λt h Q=>by rw[ak Q,ak h]
 have tf:∀t,t≠x.X->t≠y.X->(if t=y.X then lv s+1 else if t=x.X then lv s else lv t)=lv t:=λt h Q=>by rw[ak Q,ak h]
 have xol:(if x.X=y.X then([]:aY)else if x.X=x.X then n.sep else lo x.X)=n.sep:=by rw[ak Ie,au Z]
 have xov:(if x.X=y.X then lv s+1 else if x.X=x.X then lv s else lv x.X)=lv s:=by rw[ak Ie,au Z]
 have gy':up (up (up σ s (g,n.left x)) x.X (x.bo,n.right)) y.X (y.bo,sW n.sep aO x) y.X=J (y.bo,sW n.sep aO x):=dF;have Mb:up (up (up σ s (g,n.left x)) x.X (x.bo,n.right)) y.X (y.bo,sW n.sep aO x) x.X=J (x.bo,n.right):=by rw[cT Ie,dF]
 have CF:up (up (up σ s (g,n.left x)) x.X (x.bo,n.right)) y.X (y.bo,sW n.sep aO x) s=J (g,n.left x):=by rw[cT CR.symm,cT kU.symm,dF]
 have go':∀t,t≠y.X->t≠x.X->t≠s->up (up (up σ s (g,n.left x)) x.X (x.bo,n.right)) y.X (y.bo,sW n.sep aO x) t=σ t:=λt W F h3=>by rw[cT W,cT F,cT h3]
 generalize up (up (up σ s (g,n.left x)) x.X (x.bo,n.right)) y.X (y.bo,sW n.sep aO x)=σ' at gy' Mb CF go';have get:∀{t g1 m},σ' t=J (g1,m)->(t=y.X/\g1=y.bo/\m=sW n.sep aO x)\/(t=x.X/\g1=x.bo/\m=n.right)\/(t=s/\g1=g/\m=n.left x)\/((t≠y.X/\t≠x.X/\t≠s)/\σ t=J (g1,m)):=by
  intro t g1 m h;by_cases W:t=y.X;.subst W;rw[gy']at h;injection h with h;injection h with q1 q2;exact .inl ⟨Z,q1.symm,q2.symm⟩
  by_cases F:t=x.X;.subst F;rw[Mb]at h;injection h with h;injection h with q1 q2;exact .inr (.inl ⟨Z,q1.symm,q2.symm⟩)
  by_cases h3:t=s;.subst h3;rw[CF]at h;injection h with h;injection h with q1 q2;exact FF (.inl ⟨Z,q1.symm,q2.symm⟩)
  .rw[go' t W F h3]at h;exact Fe ⟨⟨W,F,h3⟩,h⟩
 have put:∀{t g1 m},σ t=J (g1,m)->∃m',σ' t=J (g1,m')/\(t≠s->m'.bd=m.bd/\m'.cQ=m.cQ)/\m'.ay=m.ay:=by
  intro t g1 m h;by_cases h3:t=s
  .exact auN
  .exact⟨m,by rw[go' t (old h).2 (old h).1 h3];exact h,λ_=>⟨Z,Z⟩,Z⟩
 have xY:=tQ tg h5;have Jd:O (n.left x).aJ=2:=by rw[iY tg h5,ax,h5];rfl
 have ym:∀i,i<O n.bu->n.ay=R->∃m',σ' (n.bu.getD i default).X=J ((n.bu.getD i default).bo,m')/\((n.bu.getD i default).X≠x.X/\(n.bu.getD i default).X≠y.X)/\lv (n.bu.getD i default).X+1=lv s/\lo (n.bu.getD i default).X=jE lo s n i/\m'.bd=kJ n i/\m'.cQ=lG n i:=by
  exact atJ
 refine⟨λt g1 m h=>?_,λt g1 m h=>?_,λt g1 m h=>?_,λt g1 m h=>?_,λt g1 m h D=>?_,λt g1 m h mn j hj=>?_,λt g1 m h=>?_,λt g1 m t' g1' m' h Q rU cD=>?_,?_,λt g1 m h mn=>?_,λt g1 m h=>?_⟩
 .obtain⟨rfl,rfl,rfl⟩|⟨rfl,rfl,rfl⟩|⟨rfl,rfl,rfl⟩|⟨_,h⟩:=get h;.refine⟨λi H=>?_,λi H=>rfl,λ_=>rfl,(λh=>by cases h),λ_=>⟨Z,Z⟩,by show 1<60000;omega⟩;have:i+1<1:=H;omega
  .exact Nd.zxQ.right tg h5
  .exact Nd.zxQ.left tg h5
  .exact I.r _ _ _ h
 .rcases get h with⟨rfl,rfl,rfl⟩|⟨rfl,rfl,rfl⟩|⟨rfl,rfl,rfl⟩|⟨cD,h⟩;.left;show 1<=4;omega
  .left;rw[xY];split<;>omega
  .left;rw[Jd];omega
  .obtain h|h:=I.small _ _ _ h;.exact .inl h
   .exact absurd h.1 cD.2.2
 .obtain⟨rfl,rfl,rfl⟩|⟨rfl,rfl,rfl⟩|⟨rfl,rfl,rfl⟩|⟨cD,h⟩:=get h;.rw[au Z];exact⟨(λh=>by cases h),λh=>U⟩
  .rw[xov];exact avh
  .rw[tf _ kU.symm CR.symm];exact avh
  .rw[tf _ cD.2.1 cD.1];exact I.ay _ _ _ h
 .obtain⟨rfl,rfl,rfl⟩|⟨rfl,rfl,rfl⟩|⟨rfl,rfl,rfl⟩|⟨cD,h⟩:=get h
  .intro j hj;have hj:j<1:=hj;have:j=0:=U;subst this;rw[au Z];have:([]:aY)<n.sep:=r2▸f1
   exact⟨kF,λ_=>this⟩
  .intro j hj;rw[xol,oz tg h5,uh];exact atx
  .intro j hj;rw[Jd]at hj;rw[vB _ kU.symm CR.symm,iY tg h5,jj hj];exact I.cw _ _ _ G j U
  .rw[vB _ cD.2.1 cD.1];exact I.cw _ _ _ h
 .obtain⟨rfl,rfl,rfl⟩|⟨rfl,rfl,rfl⟩|⟨rfl,rfl,rfl⟩|⟨cD,h⟩:=get h;.cases D
  .rw[show n.right.bd=n.bd from Z,mB]at D;cases D
  .rw[vB _ kU.symm CR.symm];exact f1
  .rw[vB _ cD.2.1 cD.1];exact I.oP _ _ _ h D
 .obtain⟨rfl,rfl,rfl⟩|⟨rfl,rfl,rfl⟩|⟨rfl,rfl,rfl⟩|⟨cD,h⟩:=get h
  .have hj:j<2:=hj;obtain q|q:=bB j 1
   .have:j=0:=U;subst this;refine⟨n.left x,?_,?_,?_,Z,Z⟩;.rw[hr];exact CF
    .have e:aO.X=s:=by rw[hr]
     show(if aO.X=y.X then lv s+1 else if aO.X=x.X then lv s else lv aO.X)+1=(if y.X=y.X then lv s+1 else _);rw[au Z,e,tf _ kU.symm CR.symm]
    .have e:aO.X=s:=by rw[hr]
     show(if aO.X=y.X then([]:aY)else if aO.X=x.X then n.sep else lo aO.X)=jE _ _ _ 0;rw[e,vB _ kU.symm CR.symm,r2];unfold jE;simp
   .have:j=1:=U;subst this;refine⟨n.right,Mb,?_,?_,mB,tg.H mB⟩;.show(if x.X=y.X then lv s+1 else if x.X=x.X then lv s else lv x.X)+1=(if y.X=y.X then lv s+1 else _);rw[xov,au Z]
    .show(if x.X=y.X then([]:aY)else if x.X=x.X then n.sep else lo x.X)=_;rw[xol];rfl
  .have K:n.ay=R:=mn;have ek:n.right.bu=n.bu.drop 3:=by show(if n.ay then n.bu else n.bu.drop (n.nJ+1))=_;rw[K,ak bR,pW tg h5]
   have nkl:=(tg.nd K).2;rw[ek]at hj⊢;rw[aC]at hj;rw[ou];have⟨m',p1,p2,p3,p4,p5,p6⟩:=ym (3+j) U K;rw[K]at xY;simp only[du,cU]at xY;have eg:∀q,n.right.aJ.getD q []=n.aJ.getD (3+q) []:=λq=>by rw[oz tg h5,K];rfl
   refine⟨m',p1,?_,?_,?_,?_⟩;.rw[tf _ p2.1 p2.2,xov,p3]
   .rw[vB _ p2.1 p2.2,p4];unfold jE;rw[ak U];simp only[xol];split;.rename_i e;subst e;exact uh.symm
    .rw[eg];congr 1;omega
   .rw[p5];unfold kJ;rw[xY];exact auC
   .rw[p6];unfold lG;rw[xY,eg];exact auC
  .have K:n.ay=R:=mn;have ek:(n.left x).bu=n.bu.take 3:=by show(if n.ay then n.bu else n.bu.take (n.nJ+1))=_;rw[K,ak bR,pW tg h5]
   have nkl:=(tg.nd K).2;rw[ek]at hj⊢;rw[ax]at hj;rw[jj U];have⟨m',p1,p2,p3,p4,p5,p6⟩:=ym j U K;refine⟨m',p1,?_,?_,?_,?_⟩;.rw[tf _ p2.1 p2.2,tf _ kU.symm CR.symm,p3]
   .rw[vB _ p2.1 p2.2,p4];unfold jE;simp only[vB _ kU.symm CR.symm,iY tg h5];split;.rfl
    .rw[jj U]
   .rw[p5];unfold kJ;rw[au U];split<;>rfl
   .exact auK
  .have⟨m',W,F,h3,h4,h5⟩:=I.kD _ _ _ h mn j hj;have Yg:(m.bu.getD j default).X≠s:=λe=>by rw[e]at F;have:=top _ _ _ h;omega
   have⟨m2,p1,p2,_⟩:=put W;refine⟨m2,p1,?_,?_,by rw[(p2 Yg).1,h4],by rw[(p2 Yg).2,h5]⟩;.rw[tf _ (old W).1 (old W).2,tf _ cD.2.1 cD.1,F]
   .rw[vB _ (old W).1 (old W).2,h3];unfold jE;simp only[vB _ cD.2.1 cD.1]
 .obtain⟨rfl,rfl,rfl⟩|⟨rfl,rfl,rfl⟩|⟨rfl,rfl,rfl⟩|⟨cD,h⟩:=get h;.exact⟨λ_=>rfl,λh=>by cases h⟩
  .exact⟨(I.next _ _ _ G).1,λD=>by rw[show n.right.bd=n.bd from Z,mB]at D;cases D⟩
  .exact⟨(λh=>by cases h),λ_=>⟨_,Mb,xov.trans (tf _ kU.symm CR.symm).symm,xol⟩⟩
  .refine⟨(I.next _ _ _ h).1,λD=>?_⟩;have⟨m',W,F,h3⟩:=(I.next _ _ _ h).2 D;have⟨m2,p1,_⟩:=put W;exact⟨m2,p1,(tf _ (old W).1 (old W).2).trans (F.trans (tf _ cD.2.1 cD.1).symm),(vB _ (old W).1 (old W).2).trans h3⟩
 .have src:∀{t g1 m},σ' t=J (g1,m)->t≠y.X->∃q go no,σ q=J (go,no)/\(if t=y.X then lv s+1 else if t=x.X then lv s else lv t)=lv q/\(¬(if t=y.X then[]else if t=x.X then n.sep else lo t)<lo q)/\(no.bd=M->m.bd=M/\¬no.cQ<m.cQ)/\(q=t\/(q=s/\t=x.X)):=by
   intro t g1 m h zQ;obtain⟨rfl,rfl,rfl⟩|⟨rfl,rfl,rfl⟩|⟨rfl,rfl,rfl⟩|⟨cD,h⟩:=get h
   .exact absurd Z zQ
   .exact⟨s,_,_,G,xov,by rw[xol];exact dA f1,λh=>⟨h,bU⟩,.inr ⟨Z,Z⟩⟩
   .exact⟨t,_,_,G,tf _ kU.symm CR.symm,by rw[vB _ kU.symm CR.symm];exact bU,λh=>(by rw[mB]at h;cases h),.inl Z⟩
   .exact⟨t,_,_,h,tf _ cD.2.1 cD.1,by rw[vB _ cD.2.1 cD.1];exact bU,λh=>⟨h,bU⟩,.inl Z⟩
  by_cases ty:t=y.X
  .by_cases ty':t'=y.X;.exact absurd (ty.trans ty'.symm) cD
   .have⟨q',go',no',b1,b2,_⟩:=src Q ty';rw[b2,ty,au Z]at rU;have:=top _ _ _ b1;omega
  by_cases ty':t'=y.X;.have⟨q',go',no',b1,b2,_⟩:=src h ty;rw[b2,ty',au Z]at rU;have:=top _ _ _ b1;omega
  have⟨q,go,no,a1,a2,a3,a4,a5⟩:=src h ty;have⟨q',go',no',b1,b2,b3,b4,b5⟩:=src Q ty';by_cases hq:q=q'
  .subst hq;have:(t=s/\t'=x.X)\/(t=x.X/\t'=s):=by
    exact atr
   obtain⟨rfl,rfl⟩|⟨rfl,rfl⟩:=this
   .rw[CF]at h;injection h with h;injection h with _ h;subst h
    exact .inl ⟨Z,by rw[xol];exact bU⟩
   .rw[CF]at Q;injection Q with Q;injection Q with _ Q;subst Q
    exact .inr ⟨Z,by rw[xol];exact bU⟩
  .exact atL
 .exact⟨_,gy',au Z,Z⟩
 .obtain⟨rfl,rfl,rfl⟩|⟨rfl,rfl,rfl⟩|⟨rfl,rfl,rfl⟩|⟨_,h⟩:=get h;.cases mn
  .intro k hk;rw[rE tg h5]at hk;exact I.aJ _ _ _ G mn k (ju hk)
  .intro k hk;rw[iY tg h5]at hk;exact I.aJ _ _ _ G mn k (fe hk)
  .exact I.aJ _ _ _ h mn
 .rw[au Z];obtain⟨rfl,rfl,rfl⟩|⟨rfl,rfl,rfl⟩|⟨rfl,rfl,rfl⟩|⟨cD,h⟩:=get h
  .rw[au Z];exact an _
  .rw[xov];omega
  .rw[tf _ kU.symm CR.symm];omega
  .rw[tf _ cD.2.1 cD.1];have:=top _ _ _ h;omega
end
variable{hl:u->aE->Nat->Prop}{Pk:aY->Prop}{args:List u}{f:FuncId}{z:Hd}{iL:Nat->Prop}{lo:Nat->aY}{lv:Nat->Nat}{tA tC:TypeId}
def ct{α:Type}(es:List (iB α)):Nat->Option (Nat×α):=λs=>(es.find? (λe=>e.X==s)).map λe=>(e.bo,e.x)
def kz{es:List (iB α)}{g}{n:α}(h:ct es s=J (g,n)):∃e∈es,e.X=s/\e.bo=g/\e.x=n:=by
 unfold ct at h;cases hf:es.find? (λe=>e.X==s)with
 |none=>rw[hf]at h;cases h
 |some e=>
  rw[hf]at h;injection h with h;injection h with W F
  exact⟨e,List.mem_of_find?_eq_some hf,by have:=List.find?_some hf;simpa using this,W,F⟩
def om{es:List (iB α)}(hn:(es.map iB.X).Nodup){e:iB α}(V:e∈es):ct es e.X=J (e.bo,e.x):=by
 unfold ct;cases hf:es.find? (λf=>f.X==e.X)with
 |none=>have:=xS.1 hf e V;simp at this
 |some f=>
  have W:=List.mem_of_find?_eq_some hf;have F:f.X=e.X:=by have:=List.find?_some hf;simpa using this
  rw[kK hn W V F];rfl
def rC{es:List (iB α)}(h:∀e∈es,e.X≠s):ct es s=B:=by unfold ct;rw[xS.2 (λe V=>by simpa using h e V)];rfl
def Ar.ok.aW{enc:α->List u}{a:Ar α}(o:Ar.ok enc tA tC a h Y)(s:aG Y h Q)(hn:Y<=E):Ar.ok enc tA tC a Q E:=
 ⟨by rw[s _ o.la];exact o.ar,by rw[s _ o.lm];exact o.mp,λe V=>by rw[s _ (o.fr e V).2.2];exact o.cl e V,o.ng,o.Ll,λe V=>⟨(o.fr e V).1,(o.fr e V).2.1,aP (o.fr e V).2.2 hn⟩,o.ne,aP o.la hn,aP o.lm hn⟩
structure Bl where
 tb:Nat
 a:Ar Nd
 aO:Hd
 size:Int
structure Bl.ok(t:Bl)(h:aE)(Y:Nat):Prop where
 tr:N h t.tb=J (.cells [.ptr t.a.pb 0,.ptr t.a.ab 0,int t.aO.X,u64 t.aO.bo,.g (.int .i64 t.size),bW R] 249)
 ok:NAr.ok t.a h Y
 d1:t.tb≠t.a.ab
 d2:t.tb≠t.a.mb
 d3:∀e∈t.a.es,e.bT≠t.tb
 lt:t.tb<Y
def Bl.ok.aW{t:Bl}{h Q Y E}(o:t.ok h Y)(s:aG Y h Q)(hn:Y<=E):t.ok Q E:=
 ⟨by rw[s _ o.lt];exact o.tr,o.ok.aW s hn,o.d1,o.d2,o.d3,aP o.lt hn⟩
def nL{a:Ar Nd}(ok:NAr.ok a h Y){n}(G:ct a.es z.X=J (z.bo,n)):
 ∃e∈a.es,e.X=z.X/\e.bo=z.bo/\e.x=n/\N h e.bT=J (.cells (u64 z.bo::n.cells) 294)/\e.bT<Y/\∀Q E,aG Y h Q->Y<=E->UP 236 [.ptr a.ab 0,.agg [int z.X,u64 z.bo]] Q E (dG (.dY [.ptr e.bT 1,bW M]) Q E):=by
 have⟨e,V,W,F,h3⟩:=kz G;refine⟨e,V,W,F,h3,?_,(ok.fr e V).2.2,?_⟩;.rw[<-F,<-h3];exact ok.cl e V
 .intro Q E q1 q2;have:=aod a Q E (ok.aW q1 q2) e V;rw[Hd.av,Hd.cells,W,F]at this;exact this
def bc{r}(A:UP f args h Y (dG r h Y)){k:Kp hl}(hk:hl r h Y):Dw prog f args h Y hl k:=
 A.mono _ λ_ _ _ ⟨a,b,c⟩=>by subst a;subst b;subst c;exact hk
theorem Av{f args r h Y}(A:UP f args h Y (dG r h Y)){hl:u->aE->Nat->Prop}{k:Kp hl}{q:Prop}(hk:q)(e:hl r h Y=q:=by simp+decide-dsimp only[go_sem,Nat.reduceAdd,Nat.reduceMul];exact Z):Dw prog f args h Y hl k:=bc A (e▸hk)
def Nd.cw(n:Nd):tF Y n.av:=by
 refine⟨trivial,?_,?_,?_,trivial,trivial,trivial,trivial,trivial⟩;.exact jz.mem λy hy=>by have⟨x,_,L⟩:=cS.1 hy;exact mE x y L
 .exact jz.mem λy hy=>by have⟨x,_,L⟩:=cS.1 hy;exact mE x y L
 .exact jz.mem λy hy=>by have⟨x,_,L⟩:=cS.1 hy;exact sB x y L
def Ri(t:Bl)(h Y)(ok:t.ok h Y):UP 229 [.ptr t.tb 0] h Y (dG (bW R) h Y):=by refine az.ac 1 T0 func229 ?_;refine Y8 f229.eq_1 ok.tr ?_;exact⟨Z,Z,Z⟩
def ah2:=RB [(3,[MO z4 5,MO [6,7,8] 9,MO [] 10,RX])]
def aiQ(t:Bl)(h Y)(ok:t.ok h Y)(z:Hd)(n)(G:ct t.a.es z.X=J (z.bo,n)):UP 231 [.ptr t.tb 0,z.av,.g .nilFunc] h Y (dG (.dY [n.av,bW M]) h Y):=by refine az.pc 3 ah2 func231 ?_;have K:=ok.lt;have X4:=ok.ok.la;have d1:¬(t.tb=Y):=U;have d2:¬(t.tb=Y+1):=U;simp+decide-dsimp only[f231,go_sem,ah2,Hd.av,Hd.cells,d1,d2,ok.tr];have⟨e,V,W,F,h3,h4,h7,h6⟩:=nL ok.ok G;refine bc (h6 _ _ (aG.set (aG.set .refl (an _)) (bG _)) U) ?_;refine L6 (U:¬(e.bT=Y)) (U:¬(e.bT=Y+1)) h4 @Nd.cells.eq_1 ?_;exact .of (aG.set (aG.set (aG.set .refl (an _)) (bG _)) (bG _)) (.cw ⟨n.cw,trivial,trivial⟩)
def aiJ:=RB [(2,[MO z9 10,MO [11,12,13] 14,MO [] 15,RX])]
def ajE(t:Bl)(h Y)(ok:t.ok h Y)(I:BI Pk (ct t.a.es) t.aO lo lv iL)(k):
 UP 230 [.ptr t.tb 0,cg k,.g .nilFunc] h Y λv Q E=>(∃s g n,v= .dY [n.av,bW M]/\ct t.a.es s=J (g,n)/\n.ay=M/\SF lo s n k)/\Q=h/\E=Y:=by
 refine az.pc 3 T0 func230 ?_;have K:=ok.lt;refine J7 f230.eq_1 (U:¬(t.tb=Y)) ok.tr ?_;obtain⟨n0,r1,r2,r3⟩:=I.rt;refine cI _ _ (λm s Q E=>∃(z:Hd) (n:Nd),m=lv z.X/\ct t.a.es z.X=J (z.bo,n)/\SF lo z.X n k/\X s 0= .ptr t.tb 0/\X s 1=cg k/\X s 2= .g .nilFunc/\X s 6= .ptr Y 0/\X s 8= .ptr (Y+1) 0/\
  aG Y h Q/\Y+2<=E/\(∃z1 z2 z3 z4 z5 z6 z7 z8,N Q Y=J (.cells [z1,z2,z3,z4,z5,z6,z7,z8] 247))/\N Q (Y+1)=J (.cells [int z.X,u64 z.bo] 245)) (n:=lv t.aO.X) ?_ ?_
 .refine QZ ?_;refine⟨t.aO,n0,Z,r1,⟨by rw[r2];exact kF,gS.2 λh=>by rw[r3]at h;cases h⟩,aG.set (aG.set (aG.set .refl (an _)) (bG _)) (bG _),⟨_,_,_,_,_,_,_,_,Z⟩,Z⟩
 rintro m s Q E ⟨z,n,rfl,G,A,s0,s1,s2,s6,s8,q1,q2,⟨z1,z2,z3,z4,z5,z6,z7,z8,q3⟩,q4⟩;refine L6 s0 s2 s8 q4 ?_;refine bc (aiQ t _ _ (ok.aW q1 U) z n G) ?_;have hcv:(!n.bd||decide (k<n.cQ))=M:=A.2;have Mg:=P7 n k;rw[hcv]at Mg;have d2:¬(Y=E):=U;refine J7 s1 @Nd.av.eq_1 @Nd.cells.eq_1 ?_;refine ba (by rw[Nd.av,Nd.cells]at Mg;exact Mg) ?_;cases mn:n.ay with
 |true=>
  refine J7 s6 q3 d2 ?_;refine⟨?_,_,.cw ?_,z.X,z.bo,n,by rw[mn],G,mn,A⟩;.intro b D;rw[Xg,Xg,Xg];exact q1 b D
  .have:=n.cw (Y:=Y);rw[Nd.av,Nd.cells,mn]at this;exact⟨this,trivial,trivial⟩
 |false=>have⟨m',g1,g2,g3⟩:=I.down G mn A;have Xv:=acy n (I.r _ _ _ G) mn k A.2;rw[Nd.av,Nd.cells,mn]at Xv;refine Xf s1 ?_;refine ba Xv ?_;have d4:¬(Y+1=Y):=U;refine asC s0 s1 s2 s6 s8 q3 q4 d2 (U:¬(Y+1=E)) @Hd.av.eq_1 @Hd.cells.eq_1 ?_;refine⟨_,(U:lv (n.bu.getD (n.jQ k) default).X<_),n.bu.getD (n.jQ k) default,m',Z,g1,g3,((q1.set U).set U).set U,U,⟨_,_,_,_,_,_,_,_,Z⟩,Z⟩
variable{hi H':aE}
section
variable{α:Type}{c:α->List u}{e sz:Nat}{h:aE}{v:u}{l:List α}
def Own.len(o:Own c e sz h v l){e'}:Fo (J (.slice e')) Q v=J (int (O l)):=by rcases o with⟨rfl,rfl⟩|⟨b,cap,hc,rfl,_⟩<;>rfl
def Own.idx[Inhabited α](o:Own c e sz h v l)(hz:∀x,O (c x)=sz)(G:cZ prog t=J sz)(H:i<O l):∃b hc,cu v=J b/\N h b=J (.cells hc e)/\
 qa (J (.slice t)) (cZ prog) v (int i)=J (.val (.ptr b (i*sz)))/\(dV (i*sz) hc).bind (dC sz)=J (c (l.getD i default)):=by
 obtain⟨_,rfl⟩|⟨b,cap,hc,rfl,hA,W,F,h3⟩:=o;.simp at H
 .refine⟨b,hc,Z,hA,by rw[CB H,G,eB,fC],?_⟩;have h4:=aM sz (show i+1<=O l from H);rw[bC,dB]at h4;have h5:=aM sz W;have h6:(hc.drop (i*sz)).take sz=c (l.getD i default):=by
   have:=Dg hz H;rw[<-fA hz,<-h3]at this;have hle:sz<=(List.drop (i*sz) (List.take (O l*sz) hc)).length:=by rw[aC,ax];omega
   rw[bZ _ _ hle]at this;injection this with this
   rw[<-this,gz,bI,b9 U]
  rw[eY _ _ U,aT,bZ _ _ (Es @aC),h6]
def Own.app(o:Own c e sz h v l)(hz:∀x,O (c x)=sz)(A:∀x,(c x).all u.dh=M)(K:O l+1<65536)(x:α):
 (∃Q v',qV h e sz 1 (c x) v=J (.val v' Q)/\Own c e sz Q v' (l++[x])/\cu v'=cu v/\(∀b,cu v≠J b->N Q b=N h b))\/
 (qV h e sz 1 (c x) v=J (.rf (.fM (l.flatMap c++c x) e sz) (O l+1) h)):=by
 obtain⟨rfl,rfl⟩|⟨b,cap,hc,rfl,hA,W,F,h3⟩:=o;.right;rw[Dp (by rfl)];rfl
 .have h5:=aM sz W;by_cases hr:O l+1<=cap
  .left;have h6:=aM sz hr;rw[bC,dB]at h6;have hp:=cG (O l*sz) hc (c x) (by rw[hz,F];omega);refine⟨aI h b (.cells (hc.take (O l*sz)++c x++hc.drop (O l*sz+O (c x))) e),.sl b 0 (O l+1) cap,by rw[Ay (by rfl) hr (A x),fC,zH,hA,w9,hp];rfl,?_,Z,λb' iQ=>?_⟩
   .refine .inr ⟨b,cap,_,bR,iA,by simpa using hr,?_,?_⟩;.simp only[aq,ax,aC,hz,F];omega
    .rw[bL,aq,bD,fx,fC,bC,dB,<-h3];rw[show O l*sz+sz=(hc.take (O l*sz)++c x).length from by rw[aq,ax,hz,F];omega,vE Z];simp
   .rw[Xg (λe=>iQ (by rw[e];rfl))]
  .right;rw[Ap (by rfl) hr K,cL,hA,cV,iq,aT,bZ _ _ (F▸h5),h3];rfl
def Own.grown(hz:∀x,O (c x)=sz){gs:List Value}(A:O l<=cap)(hg:O (l.flatMap c)+O gs=cap*sz){h}:Own c e sz (aI h Y (.cells (l.flatMap c++gs.map .g) e)) (.sl Y 0 (O l) cap) l:=
 .inr ⟨Y,cap,_,Z,iA,A,by rw[aq,bh];exact hg,by rw[show O l*sz=O (l.flatMap c) from(cj hz l).symm,vE Z]⟩
end
def lN{α:Type}{c:α->List u}{e sz v}{l:List α}(o:Own c e sz hi v l)(hz:∀x,O (c x)=sz)(A:∀x,(c x).all u.dh=M)(K:O l+1<65536)(x:α)
 {d op ty po af g} {hl:BT u->aE->Nat->Prop} {s:BT u}   {k}
 (hk:∀v' Q E,Y<=E->Own c e sz Q v' (l++[x])->(∀b,cu v'=J b->cu v=J b\/(Y<=b/\b<E))->(∀b,b<Y->cu v≠J b->N Q b=N hi b)->hl (sset s d v') Q E):
 EW prog (qV hi e sz 1 (c x) v) ⟨⟨J d,op,ty,po,af,g⟩,hl,s,H',Y⟩ k:=by
 obtain⟨Q,v',e1,e2,e3,e4⟩|e1:=o.app hz A K x;.rw[e1];exact hk v' Q Y (an _) e2 (λb D=> .inl (by rw[<-e3];exact D)) (λb _ D=>e4 b D)
 .rw[e1,HK];refine pO λcap gs W F=>?_;have cf:O (l++[x])=O l+1:=bR;have hfm:(l++[x]).flatMap c=l.flatMap c++c x:=bR;exact auo
structure L4(σ:AA)(aO:Hd)(lo:Nat->aY)(k:aY)(hx:List Hd)(done:Bool):Prop where
 ne:0<O hx
 rt:hx.getD 0 default=aO
 node:∀i,i<O hx->∃n,σ (hx.getD i default).X=J ((hx.getD i default).bo,n)/\SF lo (hx.getD i default).X n k/\(i+1<O hx->n.ay=R/\hx.getD (i+1) default=n.bu.getD (n.jQ k) default)/\(i+1=O hx->done=M->n.ay=M)
end
end br
end Go.Proofs.YtonnifoeokagjaaGreat
