/- The theorem plans_holds of OrdersPlans: part 7 of its proof; no conditions. -/
import Derived.Test.YtonnifoeokagjaaGreatF06
namespace Go.Proofs.YtonnifoeokagjaaGreat
set_option linter.all false
set_option maxRecDepth 8000
open Go Go.RowKit
open Tryz
open Nat(reduceAdd reduceMul)
namespace bC
noncomputable section
variable{A B:List AV}{b cap i:Nat}{h:aG}
theorem a40(l:List UInt8)(hl:l.length<65536)(h:aG)(nx:Nat):aA prog 40 [Jm jc l] h nx λv h' nx'=>aH nx h h'/\In nx nx' v/\Own jc 5 1 h' v l:=by
 by_cases hn:(l.length==0)=false
 .refine aA.ac 1 T0 func40 ?_;have h1:¬(l.length<=0):=by simpa using hn
  have h2:∀o e,cK (aK h nx (.cells o e)) nx 0 0=some []:=λo e=>by rw[cr,aj,aw rfl,cB,fS,aS,pV]
  simp+decide-dsimp only[f40,go_sem,hn,hl,h1,h2];refine oa λcap gs hc hg=>?_;simp+decide-dsimp only[go_sem];exact⟨(aH.refl.set (an _)).set (bz _),.sl (bz _) (aW _),.inr ⟨_,cap,_,rfl,gl,hc,by simp only[aq,bc,zg];exact hg,
   by rw[aB (by rw[zg];exact an _),aD (by rw[zg];exact an _)]⟩⟩
 .have:l=[]:=by cases l with
   |nil=>rfl
   |cons x l=>exact absurd rfl hn
  subst this;refine .empty ?_ ?_;.refine aA.ac 1 T0 func40 ?_;simp+decide-dsimp only[f40,go_sem];exact⟨.refl,.nil,.inl ⟨rfl,rfl⟩⟩
  .refine aA.ac 1 T0 func40 ?_;simp+decide-dsimp only[f40,go_sem];exact⟨aH.refl.set (an _),.sl (an _) (aW _),.inr ⟨nx,0,[],rfl,gl,an _,bL,rfl⟩⟩
def adY:Nat->cU:=λid=>if id=5 then[(z5,[],some 6),([],[],some 7),([],[],none)]else[]
theorem amd(l:List UInt8)(hl:l.length<65536)(v:AV)(i:Nat)(hi:i<l.length)(h:aG)(nx:Nat)(ho:Own jc 5 1 h v l)(lB:In 0 nx v):
 aA prog 367 [v,int i,int (i+1:Nat)] h nx λv' h' nx'=>Frame nx v h h'/\bZ v'=bZ v/\Own jc 5 1 h' v' (l.eraseIdx i):=by
 rcases ho with⟨rfl,rfl⟩|⟨b,cap,A,rfl,hA,lX,bP,dL⟩;.simp at hi
 refine aA.ac 3 adY func367 ?_;have h1:i+1<=l.length:=hi;have h2:i<=i+1:=bz i;have h3:l.length<=l.length:=an _;have h4:¬((i:Int)=((i+1:Nat):Int)):=ah;have h5:i<=cap:=ah;have h6:l.length-(i+1)<65536:=ah;have cK:bC.cK h b (if cap=i+1 then 0 else(i+1)*1) ((l.length-(i+1))*1)=some ((l.drop (i+1)).flatMap jc):=by
  have hz:∀x,(jc x).length=1:=λ_=>rfl;have e1:(A.drop ((i+1)*1)).take ((l.length-(i+1))*1)=(l.drop (i+1)).flatMap jc:=by rw[<-dY hz,<-dL,fW,<-mn]
  rw[cr,hA,cB];have Gu:=aI 1 (show i+1<=cap from ah);have Qs:=aI 1 (show(i+1)+(l.length-(i+1))<=cap from ah);rw[bh]at Qs;split;.rename_i hc;have:l.length-(i+1)=0:=ah;rw[this,aT ah,eN,fS,aS,pV];rfl
  .rw[eF _ _ (by rw[bP];exact Gu),aS,bO _ _ (by rw[aC,bP];omega),e1]
 have hz:∀x,(jc x).length=1:=λ_=>rfl;have hp:dJ (i*1) A ((l.drop (i+1)).flatMap jc)=some (A.take (i*1)++(l.drop (i+1)).flatMap jc++A.drop (i*1+(l.length-(i+1))*1)):=by have e:=bT hz (l.drop (i+1));rw[aC]at e;rw[cp,e];rw[e,bP];have:i+(l.length-(i+1))<=cap:=ah;have:=aI 1 this;rw[bh]at this;exact this
 have tN:l.eraseIdx i=l.take i++l.drop (i+1):=iZ l i;have CC:(l.eraseIdx i).length=i+(l.length-(i+1)):=by rw[tN];simp;omega
 have ht:(l.take i).flatMap jc=A.take (i*1):=by rw[<-fg hz,<-dL,bf,bM (aI _ (dP hi))]
 by_cases h0:(l.length-(i+1)==0)=false
 .have h7:i+(l.length-(i+1))<=cap:=ah;have h8:i+(l.length-(i+1))<=l.length:=ah;have h9:¬(cap=i+(l.length-(i+1))):=ah;have Tb:l.length-(i+(l.length-(i+1)))=1:=ah;have Gu:=aI 1 (show i+(l.length-(i+1))+1<=cap from ah);have vA:(A.take (i*1)++(l.drop (i+1)).flatMap jc++A.drop (i*1+(l.length-(i+1))*1)).length=cap*1:=by simp only[aq,ax,aC,bT hz,bP];omega
  have BN:dJ ((i+(l.length-(i+1)))*1) (A.take (i*1)++(l.drop (i+1)).flatMap jc++A.drop (i*1+(l.length-(i+1))*1)) [u8 0]=some _:=cp _ _ _ (by rw[vA];show _+1<=_;omega);simp+decide-dsimp only[f367,go_sem,adY,h0,h1,h2,h4,h5,h6,h7,h8,h9,Tb,lX,cK,hA,hp,BN];refine⟨((Frame.refl.set (.inr rfl)).set (.inr rfl)),rfl,.inr ⟨b,cap,_,by rw[CC],gl,by rw[CC];exact h7,?_,?_⟩⟩;.simp only[aq,ax,aC,bD,eB,bT hz,bP];omega
  .rw[CC,tN,cM,ht,ay,aB (by rw[ax,vA];omega),bf,df,ay,<-ay,aB (by simp only[aq,ax,aC,bT hz,bP];omega),aD (by simp only[aq,ax,aC,bT hz,bP];omega)]
 .have qP:l.length-(i+1)=0:=by simpa using h0
  have h7:i<=l.length:=ah;have h9:¬(cap=i):=ah;have Tb:l.length-i=1:=ah;have Gu:=aI 1 (show i+1<=cap from ah);have Cr:bC.cK h b (if cap=i+1 then 0 else(i+1)*1) 0=some []:=by have:=cK;rw[qP,eN]at this;rw[this,aT ah];rfl
  have BN:dJ (i*1) A [u8 0]=some _:=cp _ _ _ (by rw[bP];show _+1<=_;omega);simp+decide-dsimp only[f367,go_sem,adY,qP,h1,h2,h4,h5,h7,h9,Tb,lX,Cr,hA,BN];refine⟨Frame.refl.set (.inr rfl),rfl,.inr ⟨b,cap,_,by rw[CC,qP];rfl,gl,by rw[CC];omega,?_,?_⟩⟩;.simp only[aq,ax,aC,bD,eB,bP];omega
  .rw[CC,tN,cM,ht,qP,aT (show l.length<=i+1 from ah),ay,dD,aB (by rw[ax,bP];omega),bf,df];simp
def I0:Nat->cU:=λid=>if id=11 then[(z7,[],some 8),([],[],none)]else if id=15 then[(z7,[],some 8),([],[],none)]else[]
def N9(h:aG)(nx:Nat)(v:AV)(l:List UInt8)(v':AV)(h':aG)(nx':Nat):Prop:=Frame nx v h h'/\(∀b,bZ v'=some b->bZ v=some b\/(nx<=b/\b<nx'))/\Own jc 5 1 h' v' l
theorem ru{l:List UInt8}{x:UInt8}(hi:i<=l.length)(dL:A.take (l.length*1)=l.flatMap jc)(g1:l.length+1<=cap)(g2:B.length=cap*1)(g3:B.take (i*1)=A.take (i*1))(g4:(B.drop (i*1)).take 1=jc x)
 (g5:(B.drop ((i+1)*1)).take ((l.length-i)*1)=(l.drop i).flatMap jc):Own jc 5 1 (aK h b (.cells B 5)) (.sl b 0 (l.length+1) cap) (l.take i++x::l.drop i):=by
 have hz:∀x,(jc x).length=1:=λ_=>rfl;have db:(l.take i).flatMap jc=A.take (i*1):=by rw[<-fg hz,<-dL,bf,bM (aI _ hi)]
 have hre:(l.take i++x::l.drop i).flatMap jc=A.take (i*1)++jc x++(l.drop i).flatMap jc:=by rw[cM,bG,db,ay]
 have vO:(l.take i++x::l.drop i).length=l.length+1:=fE;refine .inr ⟨b,cap,B,by rw[vO],gl,by rw[vO];exact g1,g2,?_⟩;have e1:(l.length+1)*1=i*1+(1+(l.length-i)*1):=by have:l.length+1=i+(1+(l.length-i)):=ah;rw[this,bh,bh,cP]
 rw[hre,vO,e1,jT,jT,g3,g4,lU];have e2:i*1+1=(i+1)*1:=by rw[bh,cP]
 rw[e2,g5,ay]
theorem Ud(x:UInt8)(b1:Nat)(h:aG)(nx:Nat)(hx:au h b1=some (.cells (jc x) 5)):aA prog 369 [.g (.slice none 0 0),int (0:Nat),.sl b1 0 1 1] h nx (N9 h nx (.g (.slice none 0 0)) [x]):=by
 have Hj:cK h b1 0 (1*1)=some (jc x):=by rw[cr,hx];rfl
 have kD:∀x,(jc x).all AV.cy=true:=λ_=>rfl;refine aA.ac 3 I0 func369 ?_;simp+decide-dsimp only[f369,go_sem,Int.ofNat_zero,Hj];refine oa λcap gs hc hg=>?_;simp+decide-dsimp only[go_sem];refine⟨Frame.refl.set (.inl (an _)),λb e=> .inr ?_,.inr ⟨nx,cap,_,rfl,gl,hc,?_,?_⟩⟩;.injection e with e;omega
 .rw[aq,bc];exact hg
 .rw[show[x].length*1=(jc x).length from rfl,Jz rfl];exact(cD _).symm
theorem O0(l:List UInt8)(x:UInt8)(b1 b cap:Nat)(A:List AV)(h:aG)(nx:Nat)(hx:au h b1=some (.cells (jc x) 5))(hA:au h b=some (.cells A 5))(bP:A.length=cap*1)(dL:A.take (l.length*1)=l.flatMap jc)
 (hr:l.length+1<=cap):aA prog 369 [.sl b 0 l.length cap,int l.length,.sl b1 0 1 1] h nx (N9 h nx (.sl b 0 l.length cap) (l.take l.length++x::l.drop l.length)):=by
 have Hj:cK h b1 0 (1*1)=some (jc x):=by rw[cr,hx];rfl
 have kD:∀x,(jc x).all AV.cy=true:=λ_=>rfl;have hz:∀x,(jc x).length=1:=λ_=>rfl;have hmr:=aI 1 hr;have IK:(l.length+1)*1=l.length*1+1:=by rw[bh,cP]
 have hp:dJ (l.length*1) A (jc x)=some _:=cp _ _ _ (by rw[bP,hz];omega);refine aA.ac 3 I0 func369 ?_;simp+decide-dsimp only[f369,go_sem,Hj,kD,hr,hA,hp];refine⟨Frame.refl.set (.inr rfl),λb e=> .inl e,ru (an _) dL hr ?_ ?_ ?_ ?_⟩;.simp only[aq,ax,aC,bP,hz];omega
 .rw[ay,aB (by rw[ax,bP];omega),bf,df]
 .rw[ay,cg (by rw[ax,bP];omega),aT (by rw[ax];omega),ch,aB (by rw[hz];exact an _),aD (by rw[hz];exact an _)]
 .rw[jM,eN,dv,jg];rfl
theorem Ok(l:List UInt8)(hl:l.length+1<65536)(x:UInt8)(b1 b cap:Nat)(A:List AV)(h:aG)(nx:Nat)(hx:au h b1=some (.cells (jc x) 5))(hA:au h b=some (.cells A 5))(lX:l.length<=cap)(bP:A.length=cap*1)(dL:A.take (l.length*1)=l.flatMap jc)
 (hr:¬l.length+1<=cap):aA prog 369 [.sl b 0 l.length cap,int l.length,.sl b1 0 1 1] h nx (N9 h nx (.sl b 0 l.length cap) (l.take l.length++x::l.drop l.length)):=by
 have Hj:cK h b1 0 (1*1)=some (jc x):=by rw[cr,hx];rfl
 have kD:∀x,(jc x).all AV.cy=true:=λ_=>rfl;have hz:∀x,(jc x).length=1:=λ_=>rfl;have je:bC.cK h b 0 (l.length*1)=some (l.flatMap jc):=by rw[cr,hA,cB,fS,aS,bO _ _ (by rw[bP];exact aI _ lX),dL]
 refine aA.ac 3 I0 func369 ?_;simp+decide-dsimp only[f369,go_sem,Hj,je,hr,hl];refine oa λrD gs hc hg=>?_;simp+decide-dsimp only[go_sem];have jL:(l.flatMap jc).length=l.length*1:=bT hz l;refine⟨Frame.refl.set (.inl (an _)),λb e=> .inr ?_,ru (an _) dL hc ?_ ?_ ?_ ?_⟩;.injection e with e;omega
 .simp only[aq,bc,hz,jL]at hg⊢;exact hg
 .rw[ay,aB (by rw[jL];exact an _),aD (by rw[jL];exact an _),dL]
 .rw[ay,<-jL,cg (an _),jg,ch,aB (by rw[hz];exact an _),aD (by rw[hz];exact an _)]
 .rw[jM,eN,dv,jg];rfl
theorem NW(l:List UInt8)(hl:l.length+1<65536)(i:Nat)(vZ:i<l.length)(x:UInt8)(b1 b cap:Nat)(A:List AV)(h:aG)(nx:Nat)(hb:¬(b1=b))(hx:au h b1=some (.cells (jc x) 5))(hA:au h b=some (.cells A 5))(bP:A.length=cap*1)(dL:A.take (l.length*1)=l.flatMap jc)
 (hr:l.length+1<=cap):aA prog 369 [.sl b 0 l.length cap,int i,.sl b1 0 1 1] h nx (N9 h nx (.sl b 0 l.length cap) (l.take i++x::l.drop i)):=by
 have kD:∀x,(jc x).all AV.cy=true:=λ_=>rfl;have hz:∀x,(jc x).length=1:=λ_=>rfl;have Rd:de (1*1) (jc x)=some (jc x):=rfl;have hi:i<=l.length:=dP vZ;have Ly:l.length+1<9223372036854775808:=ah;have RM:i+1<9223372036854775808:=ah;have e0:¬((i:Int)=(l.length:Int)):=ah;have qa:¬(cap<l.length+1):=ah;have ya:l.length+1-(i+1)=l.length-i:=ah;have wX:¬(cap=i):=ah;have Uo:¬(cap=i+1):=ah;have Eh:i<=l.length+1:=ah;have Df:i+1<=l.length+1:=ah;have QG:(l.length-i==0)=false:=fE;have uN:Nat.min 1 (l.length+1-i)=1:=by show min _ _=_;omega
 have yO:Nat.min (l.length+1-i) (l.length-i)=l.length-i:=by show min _ _=_;omega
 have hM:((l.drop i).flatMap jc).length=(l.length-i)*1:=by rw[bT hz,aC]
 have RI:(A.drop (i*1)).take ((l.length-i)*1)=(l.drop i).flatMap jc:=by rw[<-dY hz,<-dL,fW,<-mn]
 have hmr:=aI 1 hr;have hmn:i*1+(l.length-i)*1=l.length*1:=by rw[<-bh];congr 1;omega
 have Q4:(l.length+1)*1=l.length*1+1:=by rw[bh,cP]
 have Ip:(i+1)*1=i*1+1:=by rw[bh,cP]
 have Sm:(l.length+1-i)*1=(l.length-i)*1+1:=by rw[show l.length+1-i=(l.length-i)+1 from ah,bh,cP]
 have hl3:bC.cK h b (i*1) ((l.length+1-i)*1)=some ((A.drop (i*1)).take ((l.length+1-i)*1)):=by rw[cr,hA,cB,eF _ _ ah,aS,bO _ _ (by rw[aC,bP];omega)]
 have ht3:de ((l.length-i)*1) ((A.drop (i*1)).take ((l.length+1-i)*1))=some ((l.drop i).flatMap jc):=by rw[bO _ _ (by rw[ax,aC,bP];omega),bf,bM ah,RI]
 have Cz:dJ ((i+1)*1) A ((l.drop i).flatMap jc)=some _:=cp _ _ _ (by rw[hM,bP];omega);rw[hM]at Cz;have sC:(A.take ((i+1)*1)++(l.drop i).flatMap jc++A.drop ((i+1)*1+(l.length-i)*1)).length=cap*1:=by simp only[aq,ax,aC,hM,bP];omega
 generalize uf:A.take ((i+1)*1)++(l.drop i).flatMap jc++A.drop ((i+1)*1+(l.length-i)*1)=A1 at Cz sC;have BN:dJ (i*1) A1 (jc x)=some _:=cp _ _ _ (by rw[sC,hz];omega);have BF:∀o,bC.cK (aK h b o) b1 0 (1*1)=some (jc x):=λo=>by rw[cr,aj,ak hb,hx];rfl
 have I9:jl h b1=true:=by simp[jl,hx,AO.cells?,jc]
 have hv2:jl h b=true:=by
  unfold jl;simp only[hA,AO.cells?];cases A with
  |nil=>simp only[eB]at bP;omega
  |cons=>rfl
 refine aA.ac 3 I0 func369 ?_;simp+decide-dsimp only[f369,go_sem,hi,e0,Ly,qa];simp+decide-dsimp only[go_sem,I0,hr,hb,RM,Eh,Df,wX,Uo,ya,I9,hv2];simp+decide-dsimp only[go_sem,Eh,hA,hl3,ht3,yO,QG,Cz,wX];simp+decide-dsimp only[go_sem,kD,BF,uN,Rd,BN];refine⟨(Frame.refl.set (.inr rfl)).set (.inr rfl),λb e=> .inl e,ru hi dL hr ?_ ?_ ?_ ?_⟩;.simp only[aq,ax,aC,sC,hz];omega
 .rw[ay,aB (by rw[ax,sC];omega),bf,df,<-uf,ay,aB (by rw[ax,bP];omega),bf,bM ah]
 .rw[ay,cg (by rw[ax,sC];omega),aT (by rw[ax];omega),ch,aB (by rw[hz];exact an _),aD (by rw[hz];exact an _)]
 .rw[dr2 (by rw[ax,sC,hz];omega),hz,<-Ip,<-uf,ay,PD (by rw[ax,bP];omega),Jz hM]
theorem OZ(l:List UInt8)(hl:l.length+1<65536)(i:Nat)(vZ:i<l.length)(x:UInt8)(b1 b cap:Nat)(A:List AV)(h:aG)(nx:Nat)(Jr:b<nx)(af6:b1<nx)(hx:au h b1=some (.cells (jc x) 5))(hA:au h b=some (.cells A 5))(lX:l.length<=cap)(bP:A.length=cap*1)(dL:A.take (l.length*1)=l.flatMap jc)
 (hr:¬l.length+1<=cap):aA prog 369 [.sl b 0 l.length cap,int i,.sl b1 0 1 1] h nx (N9 h nx (.sl b 0 l.length cap) (l.take i++x::l.drop i)):=by
 have kD:∀x,(jc x).all AV.cy=true:=λ_=>rfl;have hz:∀x,(jc x).length=1:=λ_=>rfl;have Rd:de (1*1) (jc x)=some (jc x):=rfl;have hi:i<=l.length:=dP vZ;have hic:i<=cap:=ah;have Ly:l.length+1<9223372036854775808:=ah;have RM:i+1<9223372036854775808:=ah;have e0:¬((i:Int)=(l.length:Int)):=ah;have qa:cap<l.length+1:=ah;have ya:l.length+1-(i+1)=l.length-i:=ah;have e1:i+(l.length+1-i)=l.length+1:=ah;have wX:¬(cap=i):=ah;have Eh:i<=l.length+1:=ah;have Df:i+1<=l.length+1:=ah;have QG:(l.length-i==0)=false:=fE;have Td:(l.length+1-i==0)=false:=fE;have Vj:l.length+1-i<65536:=ah;have uN:Nat.min 1 (l.length+1-i)=1:=by show min _ _=_;omega
 have yO:Nat.min (l.length-i) (l.length-i)=l.length-i:=df _;have hM:((l.drop i).flatMap jc).length=(l.length-i)*1:=by rw[bT hz,aC]
 have RI:(A.drop (i*1)).take ((l.length-i)*1)=(l.drop i).flatMap jc:=by rw[<-dY hz,<-dL,fW,<-mn]
 have hmi:=aI 1 hi;have hmc:=aI 1 lX;have hmn:i*1+(l.length-i)*1=l.length*1:=by rw[<-bh];congr 1;omega
 have Q4:(l.length+1)*1=l.length*1+1:=by rw[bh,cP]
 have Ip:(i+1)*1=i*1+1:=by rw[bh,cP]
 have Sm:(l.length+1-i)*1=(l.length-i)*1+1:=by rw[show l.length+1-i=(l.length-i)+1 from ah,bh,cP]
 have hl4:bC.cK h b 0 (i*1)=some (A.take (i*1)):=by rw[cr,hA,cB,fS,aS,bO _ _ ah]
 have hBl:(A.take (i*1)++fK (l.length+1-i) [u8 0]).length=(l.length+1)*1:=by rw[aq,ax,ua];show _+_*1=_;omega
 refine aA.ac 3 I0 func369 ?_;simp+decide-dsimp only[f369,go_sem,hi,e0,Ly,qa];simp+decide-dsimp only[go_sem,Eh,hic,Ly,Vj,Td,e1,hr,hl,hl4];refine oa λrD gs hc hg=>?_;rw[<-aq,hBl]at hg;have hci':¬(rD=i):=ah;have hci1':¬(rD=i+1):=ah;have DG:(A.take (i*1)++fK (l.length+1-i) [u8 0]++gs.map AV.g).length=rD*1:=by rw[aq,hBl,bc];exact hg
 have hBt:(A.take (i*1)++fK (l.length+1-i) [u8 0]++gs.map AV.g).take (i*1)=A.take (i*1):=by rw[ay,aB (by rw[ax];omega),bf,df]
 have hmc':=aI 1 hc;generalize hBe:A.take (i*1)++fK (l.length+1-i) [u8 0]++gs.map AV.g=B at DG hBt;have Cz:dJ (i*1) B (jc x)=some _:=cp _ _ _ (by rw[DG,hz];omega);have sC:(B.take (i*1)++jc x++B.drop (i*1+(jc x).length)).length=rD*1:=by simp only[aq,ax,aC,hz,DG];omega
 generalize uf:B.take (i*1)++jc x++B.drop (i*1+(jc x).length)=A1 at Cz sC;have BN:dJ ((i+1)*1) A1 ((l.drop i).flatMap jc)=some _:=cp _ _ _ (by rw[hM,sC];omega);have BF:∀o,bC.cK (aK h nx o) b1 0 (1*1)=some (jc x):=λo=>by rw[cr,aj,ak ah,hx];rfl
 have hl5:∀o o',bC.cK (aK (aK h nx o) nx o') b (i*1) ((l.length-i)*1)=some ((l.drop i).flatMap jc):=λo o'=>by rw[cr,aj,ak ah,aj,ak ah,hA,cB,eF _ _ ah,aS,bO _ _ (by rw[aC];omega),RI]
 have ht5:de ((l.length-i)*1) ((l.drop i).flatMap jc)=some ((l.drop i).flatMap jc):=by rw[bO _ _ (by rw[hM];exact an _),aD (by rw[hM];exact an _)]
 simp+decide-dsimp only[go_sem,kD,Eh,hci',uN,BF,Rd,Cz];simp+decide-dsimp only[go_sem,I0,hi,Df,RM,wX,hci1',ya,yO,QG,hl5,ht5,BN];refine⟨Frame.set (Frame.set (Frame.set Frame.refl ?_) ?_) ?_,λb e=> .inr ?_,ru hi dL hc ?_ ?_ ?_ ?_⟩;.exact .inl (an _)
 .exact .inl (an _)
 .exact .inl (an _)
 .injection e with e;omega
 .simp only[aq,ax,aC,sC,hM];omega
 .rw[ay,aB (by rw[ax,sC];omega),bf,bM ah,<-uf,ay,aB (by rw[ax,DG];omega),bf,df,hBt]
 .have V0:A1.take ((i+1)*1)=B.take (i*1)++jc x:=by rw[<-uf];exact Jz (by rw[aq,ax,DG,hz];omega)
  rw[V0,ay,ay,PD (by rw[ax,DG];omega),Jz (hz x)]
 .rw[ay,PD (by rw[ax,sC];omega),Jz hM]
theorem akG(l:List UInt8)(hl:l.length+1<65536)(v:AV)(i:Nat)(hi:i<=l.length)(x:UInt8)(b1:Nat)(h:aG)(nx:Nat)(ho:Own jc 5 1 h v l)(lB:In 0 nx v)
 (JX:b1<nx) (cx:bZ v≠some b1) (hx:au h b1=some (.cells (jc x) 5)):
 aA prog 369 [v,int i,.sl b1 0 1 1] h nx (N9 h nx v (l.take i++x::l.drop i)):=by
 rcases ho with⟨rfl,rfl⟩|⟨b,cap,A,rfl,hA,lX,bP,dL⟩
 .have:i=0:=by simpa using hi
  subst this;exact Ud x b1 h nx hx
 have Jr:b<nx:=(lB b rfl).2;have hb:¬(b1=b):=λe=>cx (by rw[e];rfl);by_cases HB:i=l.length
 .subst HB;by_cases hr:l.length+1<=cap;.exact O0 l x b1 b cap A h nx hx hA bP dL hr
  .exact Ok l hl x b1 b cap A h nx hx hA lX bP dL hr
 .by_cases hr:l.length+1<=cap;.exact NW l hl i ah x b1 b cap A h nx hb hx hA bP dL hr
  .exact OZ l hl i ah x b1 b cap A h nx Jr JX hx hA lX bP dL hr
variable{a:AV}{h':aG}{nx nx':Nat}
theorem Pure.dT{r r':AV}{v:AV}(h1:aH nx h h')(h2:Fz h' nx v r')(e:r'=r):Pure h nx (λv=>v=r) v h' nx':=⟨h1,r',h2,e⟩
theorem sB.jS{b:AV}(h1:sB nx a)(h2:sB nx b):sB nx (.dN [a,b]):=⟨h1,h2,trivial⟩
theorem aj6(a b:ba):bo 127 [bR a,bR b] (int (vv a b)):=by refine bo.ac 2 T0 func127 λh nx=>?_;simp+decide-dsimp only[f127,go_sem];exact .of .refl .cA
theorem amQ(a b:ba):bo 108 [bR a,bR b] (int (vv a b)):=by refine bo.ac 2 T0 func108 λh nx=>?_;simp+decide-dsimp only[f108,go_sem];refine aZ (aj6 _ _) ?_;simp+decide-dsimp only[go_sem];exact .of .refl .cA
theorem a82(a b:ba):bo 82 [bR a,bR b] (int (vv a b)):=by refine bo.ac 2 T0 func82 λh nx=>?_;simp+decide-dsimp only[f82,go_sem];refine aZ (amQ _ _) ?_;simp+decide-dsimp only[go_sem];exact .of .refl .cA
structure Nd where
 aE:Bool
 aJ:List ba
 fQ:List ba
 bU:List Hd
 cR:ba
 bd:Bool
 next:Hd
 deriving DecidableEq,Inhabited
def Nd.cells(n:Nd):List AV:=[bQ n.aE,strs n.aJ,strs n.fQ,r7 n.bU,bR n.cR,bQ n.bd,int n.next.ao,u64 n.next.bk]
def Nd.av(n:Nd):AV:= .agg n.cells
theorem NM(n:Nd)(k:ba):bo 244 [n.av,bR k] (bQ (!n.bd||decide (k<n.cR))):=by
 refine bo.ac 2 T0 func244 λh nx=>?_;obtain⟨aE,aJ,fQ,bU,cR,bd,next⟩:=n;cases bd;.simp+decide-dsimp only[f244,go_sem,Nd.av,Nd.cells];exact .of (aH.refl.set (an _)) .cA
 .simp+decide-dsimp only[f244,go_sem,Nd.av,Nd.cells];refine aZ (a82 _ _) ?_;simp+decide-dsimp only[go_sem];exact .of (aH.refl.set (an _)) .cA
def place(l:List ba)(k:ba):Nat:=(l.takeWhile (λx=>decide (x<k))).length
theorem iE:∀(l:List ba) (k:ba),place l k<=l.length
 |[],_=>an _
 |x::l,k=>by
  unfold place;rw[lP];split;.have:=iE l k;unfold place at this;simp;omega
  .simp
theorem uI:∀(l:List ba) (k:ba) (i:Nat),i<place l k->l.getD i []<k
 |[],_,i,h=>by simp[place]at h
 |x::l,k,i,h=>by
  unfold place at h;rw[lP]at h;split at h
  .rename_i hx;cases i with
   |zero=>simpa using hx
   |succ i=>simpa using uI l k i (by unfold place;simpa using h)
  .simp at h
theorem tU:∀(l:List ba) (k:ba),place l k<l.length->¬l.getD (place l k) []<k
 |[],_,h=>by simp[place]at h
 |x::l,k,h=>by
  unfold place at h⊢;rw[lP]at h⊢;split at h;.rename_i hx;rw[aw hx];have:=tU l k (by unfold place;simpa using h);simpa[place]using this
  .rename_i hx;rw[ak hx];simpa using hx
def Nd.has(n:Nd)(k:ba):Bool:=decide (place n.aJ k<n.aJ.length)&&decide (n.aJ.getD (place n.aJ k) []=k)
def ac4:Nat->cU:=λid=>if id=3 then[(z14,[],some 15),([],[],some 16),([],[],none)]else[]
theorem ML(n:Nd)(k:ba)(hb:n.aJ.length<65536):bo 238 [n.av,bR k] (.dN [int (place n.aJ k),bQ (n.has k)]):=by
 refine bo.ac 2 ac4 func238 λh nx=>?_;simp+decide-dsimp only[f238,go_sem,Nd.av];refine cL _ _ (λm s h' nx'=>∃i,i<=place n.aJ k/\m=place n.aJ k-i/\ao s 1=bR k/\ao s 2= .ptr nx 0/\ao s 4=int i/\h'=aK h nx (.cells n.cells 247)/\nx'=nx+1) (n:=place n.aJ k) ?_ ?_;.simp+decide-dsimp only[go_sem];exact⟨0,aY _,bL⟩
 rintro m s h' nx' ⟨i,hi,rfl,s1,s2,s4,rfl,rfl⟩;have hle:=iE n.aJ k;by_cases hl:i<n.aJ.length
 .simp+decide-dsimp only[go_sem,s1,s2,s4,Nd.cells,hl];refine aZ (a82 _ _) ?_;have hw:i+1<9223372036854775808:=ah;by_cases hc:n.aJ.getD i []<k
  .simp+decide-dsimp only[go_sem,s1,s2,s4,hc,hw];have:i<place n.aJ k:=by
    rcases bg i (place n.aJ k)with h|h;.exact h
    .have:i=place n.aJ k:=ah;subst this;exact absurd hc (tU _ _ hl)
   exact⟨_,(ah:place n.aJ k-(i+1)<_),i+1,this,bL⟩
  .have hip:i=place n.aJ k:=by
    rcases bg i (place n.aJ k)with h|h;.exact absurd (uI _ _ _ h) hc
    .omega
   simp+decide-dsimp only[go_sem,s1,s2,s4,hl,hc,ac4];refine .dT (aH.refl.set (an _)) (.cQ (.jS trivial trivial)) ?_;unfold Nd.has;rw[<-hip];simp[hl]
 .have hip:i=place n.aJ k:=ah;simp+decide-dsimp only[go_sem,s2,s4,hl,ac4,Nd.cells];refine .dT (aH.refl.set (an _)) (.cQ (.jS trivial trivial)) ?_;unfold Nd.has;rw[<-hip];simp[hl]
theorem alz(l:List Hd)(hl:l.length<65536)(h:aG)(nx:Nat):aA prog 254 [r7 l] h nx λv h' nx'=>aH nx h h'/\In nx nx' v/\Own Hd.cells 245 2 h' v l:=by
 by_cases hn:(l.length==0)=false
 .refine aA.ac 1 T0 func254 ?_;have h1:¬(l.length<=0):=by simpa using hn
  have h2:∀o e,cK (aK h nx (.cells o e)) nx 0 0=some []:=λo e=>by rw[cr,aj,aw rfl,cB,fS,aS,pV]
  simp+decide-dsimp only[f254,go_sem,hn,hl,h1,h2];refine oa λcap gs hc hg=>?_;simp+decide-dsimp only[go_sem];exact⟨(aH.refl.set (an _)).set (bz _),.sl (bz _) (aW _),.inr ⟨_,cap,_,rfl,gl,hc,by simp only[aq,bc,Lm];exact hg,
   by rw[aB (by rw[Lm];exact an _),aD (by rw[Lm];exact an _)]⟩⟩
 .have:l=[]:=by cases l with
   |nil=>rfl
   |cons x l=>exact absurd rfl hn
  subst this;refine .empty ?_ ?_;.refine aA.ac 1 T0 func254 ?_;simp+decide-dsimp only[f254,go_sem];exact⟨.refl,.nil,.inl ⟨rfl,rfl⟩⟩
  .refine aA.ac 1 T0 func254 ?_;simp+decide-dsimp only[f254,go_sem];exact⟨aH.refl.set (an _),.sl (an _) (aW _),.inr ⟨nx,0,[],rfl,gl,an _,bL,rfl⟩⟩
def acG:Nat->cU:=λid=>if id=5 then[(z5,[],some 6),([],[],some 7),([],[],none)]else[]
theorem alP(l:List Hd)(hl:l.length<65536)(v:AV)(i:Nat)(hi:i<l.length)(h:aG)(nx:Nat)(ho:Own Hd.cells 245 2 h v l)(lB:In 0 nx v):
 aA prog 368 [v,int i,int (i+1:Nat)] h nx λv' h' nx'=>Frame nx v h h'/\bZ v'=bZ v/\Own Hd.cells 245 2 h' v' (l.eraseIdx i):=by
 rcases ho with⟨rfl,rfl⟩|⟨b,cap,A,rfl,hA,lX,bP,dL⟩;.simp at hi
 refine aA.ac 3 acG func368 ?_;have h1:i+1<=l.length:=hi;have h2:i<=i+1:=bz i;have h3:l.length<=l.length:=an _;have h4:¬((i:Int)=((i+1:Nat):Int)):=ah;have h5:i<=cap:=ah;have h6:l.length-(i+1)<65536:=ah;have cK:bC.cK h b (if cap=i+1 then 0 else(i+1)*2) ((l.length-(i+1))*2)=some ((l.drop (i+1)).flatMap Hd.cells):=by
  have hz:∀x,(Hd.cells x).length=2:=λ_=>rfl;have e1:(A.drop ((i+1)*2)).take ((l.length-(i+1))*2)=(l.drop (i+1)).flatMap Hd.cells:=by rw[<-dY hz,<-dL,fW,<-mn]
  rw[cr,hA,cB];have Gu:=aI 2 (show i+1<=cap from ah);have Qs:=aI 2 (show(i+1)+(l.length-(i+1))<=cap from ah);rw[bh]at Qs;split;.rename_i hc;have:l.length-(i+1)=0:=ah;rw[this,aT ah,eN,fS,aS,pV];rfl
  .rw[eF _ _ (by rw[bP];exact Gu),aS,bO _ _ (by rw[aC,bP];omega),e1]
 have hz:∀x,(Hd.cells x).length=2:=λ_=>rfl;have hp:dJ (i*2) A ((l.drop (i+1)).flatMap Hd.cells)=some (A.take (i*2)++(l.drop (i+1)).flatMap Hd.cells++A.drop (i*2+(l.length-(i+1))*2)):=by have e:=bT hz (l.drop (i+1));rw[aC]at e;rw[cp,e];rw[e,bP];have:i+(l.length-(i+1))<=cap:=ah;have:=aI 2 this;rw[bh]at this;exact this
 have tN:l.eraseIdx i=l.take i++l.drop (i+1):=iZ l i;have CC:(l.eraseIdx i).length=i+(l.length-(i+1)):=by rw[tN];simp;omega
 have ht:(l.take i).flatMap Hd.cells=A.take (i*2):=by rw[<-fg hz,<-dL,bf,bM (aI _ (dP hi))]
 by_cases h0:(l.length-(i+1)==0)=false
 .have h7:i+(l.length-(i+1))<=cap:=ah;have h8:i+(l.length-(i+1))<=l.length:=ah;have h9:¬(cap=i+(l.length-(i+1))):=ah;have Tb:l.length-(i+(l.length-(i+1)))=1:=ah;have Gu:=aI 2 (show i+(l.length-(i+1))+1<=cap from ah);have vA:(A.take (i*2)++(l.drop (i+1)).flatMap Hd.cells++A.drop (i*2+(l.length-(i+1))*2)).length=cap*2:=by simp only[aq,ax,aC,bT hz,bP];omega
  have BN:dJ ((i+(l.length-(i+1)))*2) (A.take (i*2)++(l.drop (i+1)).flatMap Hd.cells++A.drop (i*2+(l.length-(i+1))*2)) [int 0,u64 0]=some _:=cp _ _ _ (by rw[vA];show _+2<=_;omega);simp+decide-dsimp only[f368,go_sem,acG,h0,h1,h2,h4,h5,h6,h7,h8,h9,Tb,lX,cK,hA,hp,BN];refine⟨((Frame.refl.set (.inr rfl)).set (.inr rfl)),rfl,.inr ⟨b,cap,_,by rw[CC],gl,by rw[CC];exact h7,?_,?_⟩⟩;.simp only[aq,ax,aC,bD,eB,bT hz,bP];omega
  .rw[CC,tN,cM,ht,ay,aB (by rw[ax,vA];omega),bf,df,ay,<-ay,aB (by simp only[aq,ax,aC,bT hz,bP];omega),aD (by simp only[aq,ax,aC,bT hz,bP];omega)]
 .have qP:l.length-(i+1)=0:=by simpa using h0
  have h7:i<=l.length:=ah;have h9:¬(cap=i):=ah;have Tb:l.length-i=1:=ah;have Gu:=aI 2 (show i+1<=cap from ah);have Cr:bC.cK h b (if cap=i+1 then 0 else(i+1)*2) 0=some []:=by have:=cK;rw[qP,eN]at this;rw[this,aT ah];rfl
  have BN:dJ (i*2) A [int 0,u64 0]=some _:=cp _ _ _ (by rw[bP];show _+2<=_;omega);simp+decide-dsimp only[f368,go_sem,acG,qP,h1,h2,h4,h5,h7,h9,Tb,lX,Cr,hA,BN];refine⟨Frame.refl.set (.inr rfl),rfl,.inr ⟨b,cap,_,by rw[CC,qP];rfl,gl,by rw[CC];omega,?_,?_⟩⟩;.simp only[aq,ax,aC,bD,eB,bP];omega
  .rw[CC,tN,cM,ht,qP,aT (show l.length<=i+1 from ah),ay,dD,aB (by rw[ax,bP];omega),bf,df];simp
def Jx:Nat->cU:=λid=>if id=11 then[(z7,[],some 8),([],[],none)]else if id=15 then[(z7,[],some 8),([],[],none)]else[]
def Np(h:aG)(nx:Nat)(v:AV)(l:List Hd)(v':AV)(h':aG)(nx':Nat):Prop:=Frame nx v h h'/\(∀b,bZ v'=some b->bZ v=some b\/(nx<=b/\b<nx'))/\Own Hd.cells 245 2 h' v' l
theorem rq{l:List Hd}{x:Hd}(hi:i<=l.length)(dL:A.take (l.length*2)=l.flatMap Hd.cells)(g1:l.length+1<=cap)(g2:B.length=cap*2)(g3:B.take (i*2)=A.take (i*2))(g4:(B.drop (i*2)).take 2=Hd.cells x)
 (g5:(B.drop ((i+1)*2)).take ((l.length-i)*2)=(l.drop i).flatMap Hd.cells):Own Hd.cells 245 2 (aK h b (.cells B 245)) (.sl b 0 (l.length+1) cap) (l.take i++x::l.drop i):=by
 have hz:∀x,(Hd.cells x).length=2:=λ_=>rfl;have db:(l.take i).flatMap Hd.cells=A.take (i*2):=by rw[<-fg hz,<-dL,bf,bM (aI _ hi)]
 have hre:(l.take i++x::l.drop i).flatMap Hd.cells=A.take (i*2)++Hd.cells x++(l.drop i).flatMap Hd.cells:=by rw[cM,bG,db,ay]
 have vO:(l.take i++x::l.drop i).length=l.length+1:=fE;refine .inr ⟨b,cap,B,by rw[vO],gl,by rw[vO];exact g1,g2,?_⟩;have e1:(l.length+1)*2=i*2+(2+(l.length-i)*2):=by have:l.length+1=i+(1+(l.length-i)):=ah;rw[this,bh,bh,cP]
 rw[hre,vO,e1,jT,jT,g3,g4,lU];have e2:i*2+2=(i+1)*2:=by rw[bh,cP]
 rw[e2,g5,ay]
theorem Uv(x:Hd)(b1:Nat)(h:aG)(nx:Nat)(hx:au h b1=some (.cells (Hd.cells x) 245)):aA prog 257 [.g (.slice none 0 0),int (0:Nat),.sl b1 0 1 1] h nx (Np h nx (.g (.slice none 0 0)) [x]):=by
 have Hj:cK h b1 0 (1*2)=some (Hd.cells x):=by rw[cr,hx];rfl
 have kD:∀x,(Hd.cells x).all AV.cy=true:=λ_=>rfl;refine aA.ac 3 Jx func257 ?_;simp+decide-dsimp only[f257,go_sem,Int.ofNat_zero,Hj];refine oa λcap gs hc hg=>?_;simp+decide-dsimp only[go_sem];refine⟨Frame.refl.set (.inl (an _)),λb e=> .inr ?_,.inr ⟨nx,cap,_,rfl,gl,hc,?_,?_⟩⟩;.injection e with e;omega
 .rw[aq,bc];exact hg
 .rw[show[x].length*2=(Hd.cells x).length from rfl,Jz rfl];exact(cD _).symm
theorem OB(l:List Hd)(x:Hd)(b1 b cap:Nat)(A:List AV)(h:aG)(nx:Nat)(hx:au h b1=some (.cells (Hd.cells x) 245))(hA:au h b=some (.cells A 245))(bP:A.length=cap*2)(dL:A.take (l.length*2)=l.flatMap Hd.cells)
 (hr:l.length+1<=cap):aA prog 257 [.sl b 0 l.length cap,int l.length,.sl b1 0 1 1] h nx (Np h nx (.sl b 0 l.length cap) (l.take l.length++x::l.drop l.length)):=by
 have Hj:cK h b1 0 (1*2)=some (Hd.cells x):=by rw[cr,hx];rfl
 have kD:∀x,(Hd.cells x).all AV.cy=true:=λ_=>rfl;have hz:∀x,(Hd.cells x).length=2:=λ_=>rfl;have hmr:=aI 2 hr;have IK:(l.length+1)*2=l.length*2+2:=by rw[bh,cP]
 have hp:dJ (l.length*2) A (Hd.cells x)=some _:=cp _ _ _ (by rw[bP,hz];omega);refine aA.ac 3 Jx func257 ?_;simp+decide-dsimp only[f257,go_sem,Hj,kD,hr,hA,hp];refine⟨Frame.refl.set (.inr rfl),λb e=> .inl e,rq (an _) dL hr ?_ ?_ ?_ ?_⟩;.simp only[aq,ax,aC,bP,hz];omega
 .rw[ay,aB (by rw[ax,bP];omega),bf,df]
 .rw[ay,cg (by rw[ax,bP];omega),aT (by rw[ax];omega),ch,aB (by rw[hz];exact an _),aD (by rw[hz];exact an _)]
 .rw[jM,eN,dv,jg];rfl
theorem MZ(l:List Hd)(hl:l.length+1<65536)(x:Hd)(b1 b cap:Nat)(A:List AV)(h:aG)(nx:Nat)(hx:au h b1=some (.cells (Hd.cells x) 245))(hA:au h b=some (.cells A 245))(lX:l.length<=cap)(bP:A.length=cap*2)(dL:A.take (l.length*2)=l.flatMap Hd.cells)
 (hr:¬l.length+1<=cap):aA prog 257 [.sl b 0 l.length cap,int l.length,.sl b1 0 1 1] h nx (Np h nx (.sl b 0 l.length cap) (l.take l.length++x::l.drop l.length)):=by
 have Hj:cK h b1 0 (1*2)=some (Hd.cells x):=by rw[cr,hx];rfl
 have kD:∀x,(Hd.cells x).all AV.cy=true:=λ_=>rfl;have hz:∀x,(Hd.cells x).length=2:=λ_=>rfl;have je:bC.cK h b 0 (l.length*2)=some (l.flatMap Hd.cells):=by rw[cr,hA,cB,fS,aS,bO _ _ (by rw[bP];exact aI _ lX),dL]
 refine aA.ac 3 Jx func257 ?_;simp+decide-dsimp only[f257,go_sem,Hj,je,hr,hl];refine oa λrD gs hc hg=>?_;simp+decide-dsimp only[go_sem];have jL:(l.flatMap Hd.cells).length=l.length*2:=bT hz l;refine⟨Frame.refl.set (.inl (an _)),λb e=> .inr ?_,rq (an _) dL hc ?_ ?_ ?_ ?_⟩;.injection e with e;omega
 .simp only[aq,bc,hz,jL]at hg⊢;exact hg
 .rw[ay,aB (by rw[jL];exact an _),aD (by rw[jL];exact an _),dL]
 .rw[ay,<-jL,cg (an _),jg,ch,aB (by rw[hz];exact an _),aD (by rw[hz];exact an _)]
 .rw[jM,eN,dv,jg];rfl
theorem MT(l:List Hd)(hl:l.length+1<65536)(i:Nat)(vZ:i<l.length)(x:Hd)(b1 b cap:Nat)(A:List AV)(h:aG)(nx:Nat)(hb:¬(b1=b))(hx:au h b1=some (.cells (Hd.cells x) 245))(hA:au h b=some (.cells A 245))(bP:A.length=cap*2)(dL:A.take (l.length*2)=l.flatMap Hd.cells)
 (hr:l.length+1<=cap):aA prog 257 [.sl b 0 l.length cap,int i,.sl b1 0 1 1] h nx (Np h nx (.sl b 0 l.length cap) (l.take i++x::l.drop i)):=by
 have kD:∀x,(Hd.cells x).all AV.cy=true:=λ_=>rfl;have hz:∀x,(Hd.cells x).length=2:=λ_=>rfl;have Rd:de (1*2) (Hd.cells x)=some (Hd.cells x):=rfl;have hi:i<=l.length:=dP vZ;have Ly:l.length+1<9223372036854775808:=ah;have RM:i+1<9223372036854775808:=ah;have e0:¬((i:Int)=(l.length:Int)):=ah;have qa:¬(cap<l.length+1):=ah;have ya:l.length+1-(i+1)=l.length-i:=ah;have wX:¬(cap=i):=ah;have Uo:¬(cap=i+1):=ah;have Eh:i<=l.length+1:=ah;have Df:i+1<=l.length+1:=ah;have QG:(l.length-i==0)=false:=fE;have uN:Nat.min 1 (l.length+1-i)=1:=by show min _ _=_;omega
 have yO:Nat.min (l.length+1-i) (l.length-i)=l.length-i:=by show min _ _=_;omega
 have hM:((l.drop i).flatMap Hd.cells).length=(l.length-i)*2:=by rw[bT hz,aC]
 have RI:(A.drop (i*2)).take ((l.length-i)*2)=(l.drop i).flatMap Hd.cells:=by rw[<-dY hz,<-dL,fW,<-mn]
 have hmr:=aI 2 hr;have hmn:i*2+(l.length-i)*2=l.length*2:=by rw[<-bh];congr 1;omega
 have Q4:(l.length+1)*2=l.length*2+2:=by rw[bh,cP]
 have Ip:(i+1)*2=i*2+2:=by rw[bh,cP]
 have Sm:(l.length+1-i)*2=(l.length-i)*2+2:=by rw[show l.length+1-i=(l.length-i)+1 from ah,bh,cP]
 have hl3:bC.cK h b (i*2) ((l.length+1-i)*2)=some ((A.drop (i*2)).take ((l.length+1-i)*2)):=by rw[cr,hA,cB,eF _ _ ah,aS,bO _ _ (by rw[aC,bP];omega)]
 have ht3:de ((l.length-i)*2) ((A.drop (i*2)).take ((l.length+1-i)*2))=some ((l.drop i).flatMap Hd.cells):=by rw[bO _ _ (by rw[ax,aC,bP];omega),bf,bM ah,RI]
 have Cz:dJ ((i+1)*2) A ((l.drop i).flatMap Hd.cells)=some _:=cp _ _ _ (by rw[hM,bP];omega);rw[hM]at Cz;have sC:(A.take ((i+1)*2)++(l.drop i).flatMap Hd.cells++A.drop ((i+1)*2+(l.length-i)*2)).length=cap*2:=by simp only[aq,ax,aC,hM,bP];omega
 generalize uf:A.take ((i+1)*2)++(l.drop i).flatMap Hd.cells++A.drop ((i+1)*2+(l.length-i)*2)=A1 at Cz sC;have BN:dJ (i*2) A1 (Hd.cells x)=some _:=cp _ _ _ (by rw[sC,hz];omega);have BF:∀o,bC.cK (aK h b o) b1 0 (1*2)=some (Hd.cells x):=λo=>by rw[cr,aj,ak hb,hx];rfl
 have I9:jl h b1=true:=by simp[jl,hx,AO.cells?,Hd.cells]
 have hv2:jl h b=true:=by
  unfold jl;simp only[hA,AO.cells?];cases A with
  |nil=>simp only[eB]at bP;omega
  |cons=>rfl
 refine aA.ac 3 Jx func257 ?_;simp+decide-dsimp only[f257,go_sem,hi,e0,Ly,qa];simp+decide-dsimp only[go_sem,Jx,hr,hb,RM,Eh,Df,wX,Uo,ya,I9,hv2];simp+decide-dsimp only[go_sem,Eh,hA,hl3,ht3,yO,QG,Cz,wX];simp+decide-dsimp only[go_sem,kD,BF,uN,Rd,BN];refine⟨(Frame.refl.set (.inr rfl)).set (.inr rfl),λb e=> .inl e,rq hi dL hr ?_ ?_ ?_ ?_⟩;.simp only[aq,ax,aC,sC,hz];omega
 .rw[ay,aB (by rw[ax,sC];omega),bf,df,<-uf,ay,aB (by rw[ax,bP];omega),bf,bM ah]
 .rw[ay,cg (by rw[ax,sC];omega),aT (by rw[ax];omega),ch,aB (by rw[hz];exact an _),aD (by rw[hz];exact an _)]
 .rw[dr2 (by rw[ax,sC,hz];omega),hz,<-Ip,<-uf,ay,PD (by rw[ax,bP];omega),Jz hM]
theorem OD(l:List Hd)(hl:l.length+1<65536)(i:Nat)(vZ:i<l.length)(x:Hd)(b1 b cap:Nat)(A:List AV)(h:aG)(nx:Nat)(Jr:b<nx)(af6:b1<nx)(hx:au h b1=some (.cells (Hd.cells x) 245))(hA:au h b=some (.cells A 245))(lX:l.length<=cap)(bP:A.length=cap*2)(dL:A.take (l.length*2)=l.flatMap Hd.cells)
 (hr:¬l.length+1<=cap):aA prog 257 [.sl b 0 l.length cap,int i,.sl b1 0 1 1] h nx (Np h nx (.sl b 0 l.length cap) (l.take i++x::l.drop i)):=by
 have kD:∀x,(Hd.cells x).all AV.cy=true:=λ_=>rfl;have hz:∀x,(Hd.cells x).length=2:=λ_=>rfl;have Rd:de (1*2) (Hd.cells x)=some (Hd.cells x):=rfl;have hi:i<=l.length:=dP vZ;have hic:i<=cap:=ah;have Ly:l.length+1<9223372036854775808:=ah;have RM:i+1<9223372036854775808:=ah;have e0:¬((i:Int)=(l.length:Int)):=ah;have qa:cap<l.length+1:=ah;have ya:l.length+1-(i+1)=l.length-i:=ah;have e1:i+(l.length+1-i)=l.length+1:=ah;have wX:¬(cap=i):=ah;have Eh:i<=l.length+1:=ah;have Df:i+1<=l.length+1:=ah;have QG:(l.length-i==0)=false:=fE;have Td:(l.length+1-i==0)=false:=fE;have Vj:l.length+1-i<65536:=ah;have uN:Nat.min 1 (l.length+1-i)=1:=by show min _ _=_;omega
 have yO:Nat.min (l.length-i) (l.length-i)=l.length-i:=df _;have hM:((l.drop i).flatMap Hd.cells).length=(l.length-i)*2:=by rw[bT hz,aC]
 have RI:(A.drop (i*2)).take ((l.length-i)*2)=(l.drop i).flatMap Hd.cells:=by rw[<-dY hz,<-dL,fW,<-mn]
 have hmi:=aI 2 hi;have hmc:=aI 2 lX;have hmn:i*2+(l.length-i)*2=l.length*2:=by rw[<-bh];congr 1;omega
 have Q4:(l.length+1)*2=l.length*2+2:=by rw[bh,cP]
 have Ip:(i+1)*2=i*2+2:=by rw[bh,cP]
 have Sm:(l.length+1-i)*2=(l.length-i)*2+2:=by rw[show l.length+1-i=(l.length-i)+1 from ah,bh,cP]
 have hl4:bC.cK h b 0 (i*2)=some (A.take (i*2)):=by rw[cr,hA,cB,fS,aS,bO _ _ ah]
 have hBl:(A.take (i*2)++fK (l.length+1-i) [int 0,u64 0]).length=(l.length+1)*2:=by rw[aq,ax,ua];show _+_*2=_;omega
 refine aA.ac 3 Jx func257 ?_;simp+decide-dsimp only[f257,go_sem,hi,e0,Ly,qa];simp+decide-dsimp only[go_sem,Eh,hic,Ly,Vj,Td,e1,hr,hl,hl4];refine oa λrD gs hc hg=>?_;rw[<-aq,hBl]at hg;have hci':¬(rD=i):=ah;have hci1':¬(rD=i+1):=ah;have DG:(A.take (i*2)++fK (l.length+1-i) [int 0,u64 0]++gs.map AV.g).length=rD*2:=by rw[aq,hBl,bc];exact hg
 have hBt:(A.take (i*2)++fK (l.length+1-i) [int 0,u64 0]++gs.map AV.g).take (i*2)=A.take (i*2):=by rw[ay,aB (by rw[ax];omega),bf,df]
 have hmc':=aI 2 hc;generalize hBe:A.take (i*2)++fK (l.length+1-i) [int 0,u64 0]++gs.map AV.g=B at DG hBt;have Cz:dJ (i*2) B (Hd.cells x)=some _:=cp _ _ _ (by rw[DG,hz];omega);have sC:(B.take (i*2)++Hd.cells x++B.drop (i*2+(Hd.cells x).length)).length=rD*2:=by simp only[aq,ax,aC,hz,DG];omega
 generalize uf:B.take (i*2)++Hd.cells x++B.drop (i*2+(Hd.cells x).length)=A1 at Cz sC;have BN:dJ ((i+1)*2) A1 ((l.drop i).flatMap Hd.cells)=some _:=cp _ _ _ (by rw[hM,sC];omega);have BF:∀o,bC.cK (aK h nx o) b1 0 (1*2)=some (Hd.cells x):=λo=>by rw[cr,aj,ak ah,hx];rfl
 have hl5:∀o o',bC.cK (aK (aK h nx o) nx o') b (i*2) ((l.length-i)*2)=some ((l.drop i).flatMap Hd.cells):=λo o'=>by rw[cr,aj,ak ah,aj,ak ah,hA,cB,eF _ _ ah,aS,bO _ _ (by rw[aC];omega),RI]
 have ht5:de ((l.length-i)*2) ((l.drop i).flatMap Hd.cells)=some ((l.drop i).flatMap Hd.cells):=by rw[bO _ _ (by rw[hM];exact an _),aD (by rw[hM];exact an _)]
 simp+decide-dsimp only[go_sem,kD,Eh,hci',uN,BF,Rd,Cz];simp+decide-dsimp only[go_sem,Jx,hi,Df,RM,wX,hci1',ya,yO,QG,hl5,ht5,BN];refine⟨Frame.set (Frame.set (Frame.set Frame.refl ?_) ?_) ?_,λb e=> .inr ?_,rq hi dL hc ?_ ?_ ?_ ?_⟩;.exact .inl (an _)
 .exact .inl (an _)
 .exact .inl (an _)
 .injection e with e;omega
 .simp only[aq,ax,aC,sC,hM];omega
 .rw[ay,aB (by rw[ax,sC];omega),bf,bM ah,<-uf,ay,aB (by rw[ax,DG];omega),bf,df,hBt]
 .have V0:A1.take ((i+1)*2)=B.take (i*2)++Hd.cells x:=by rw[<-uf];exact Jz (by rw[aq,ax,DG,hz];omega)
  rw[V0,ay,ay,PD (by rw[ax,DG];omega),Jz (hz x)]
 .rw[ay,PD (by rw[ax,sC];omega),Jz hM]
theorem ahA(l:List Hd)(hl:l.length+1<65536)(v:AV)(i:Nat)(hi:i<=l.length)(x:Hd)(b1:Nat)(h:aG)(nx:Nat)(ho:Own Hd.cells 245 2 h v l)(lB:In 0 nx v)
 (JX:b1<nx) (cx:bZ v≠some b1) (hx:au h b1=some (.cells (Hd.cells x) 245)):
 aA prog 257 [v,int i,.sl b1 0 1 1] h nx (Np h nx v (l.take i++x::l.drop i)):=by
 rcases ho with⟨rfl,rfl⟩|⟨b,cap,A,rfl,hA,lX,bP,dL⟩
 .have:i=0:=by simpa using hi
  subst this;exact Uv x b1 h nx hx
 have Jr:b<nx:=(lB b rfl).2;have hb:¬(b1=b):=λe=>cx (by rw[e];rfl);by_cases HB:i=l.length
 .subst HB;by_cases hr:l.length+1<=cap;.exact OB l x b1 b cap A h nx hx hA bP dL hr
  .exact MZ l hl x b1 b cap A h nx hx hA lX bP dL hr
 .by_cases hr:l.length+1<=cap;.exact MT l hl i ah x b1 b cap A h nx hb hx hA bP dL hr
  .exact OD l hl i ah x b1 b cap A h nx Jr JX hx hA lX bP dL hr
variable{V:AV}{sz:Nat}{α:Type}
structure Nd.R(n:Nd):Prop where
 sorted:∀i,i+1<n.aJ.length->n.aJ.getD i []<n.aJ.getD (i+1) []
 wk:∀i,i<n.aJ.length->(!n.bd||decide (n.aJ.getD i []<n.cR))=true
 hi:n.bd=false->n.cR=[]
 lf:n.aE=true->n.fQ.length=n.aJ.length/\n.bU=[]
 nd:n.aE=false->n.fQ=[]/\n.bU.length=n.aJ.length+1
 small:n.aJ.length<60000
def Nd.dI(n:Nd)(k:ba):Bool:= !n.bd||decide (k<n.cR)
theorem cX{a b:ba}(h:a<b):¬b<a:=λh'=>absurd (List.lt_trans h h') (List.lt_irrefl a)
theorem Rn(n:Nd)(hR:n.R):bo 246 [n.av] (bQ true):=by
 refine bo.ac 1 T0 func246 λh nx=>?_;simp+decide-dsimp only[f246,go_sem,Nd.av,Nd.cells];refine cL _ _ (λm s h' nx'=>∃i,i<=n.aJ.length/\m=n.aJ.length-i/\ao s 1= .ptr nx 0/\ao s 6=strs n.aJ/\ao s 7=int n.aJ.length/\ao s 8=int i/\h'=aK h nx (.cells n.cells 247)/\nx'=nx+1) (n:=n.aJ.length) ?_ ?_;.simp+decide-dsimp only[go_sem];exact⟨0,aY _,by simp[Nd.cells]⟩
 rintro m s h' nx' ⟨i,hi,rfl,s1,s6,s7,s8,rfl,rfl⟩;have hs:=hR.small;by_cases hl:i<n.aJ.length
 .have hc:=hR.wk i hl;have hw:i+1<9223372036854775808:=ah;have Uk:=NM n (n.aJ.getD i []);rw[hc]at Uk;by_cases h0:0<i;.obtain⟨j,rfl⟩:∃j,i=j+1:=⟨i-1,ah⟩;have qP:(0:Int)<((j+1:Nat):Int):=ah;have h1:1<=j+1:=ah;have h2:j+1<9223372036854775808:=ah;have h3:j<n.aJ.length:=ah;have db:=hR.sorted j hl;have aiK:¬n.aJ.getD (j+1) []<n.aJ.getD j []:=cX db;simp+decide-dsimp only[go_sem,s1,s6,s7,s8,Nd.cells,hl,qP,h1,h2,h3,fv];refine aZ (a82 _ _) ?_;simp+decide-dsimp only[go_sem,s1,db];refine aZ Uk ?_;simp+decide-dsimp only[go_sem,s1,s6,s7,s8,hw];exact⟨_,(ah:n.aJ.length-(j+1+1)<_),j+1+1,hl,by simp[Nd.cells]⟩
  .have qP:¬(0:Int)<(i:Int):=ah;simp+decide-dsimp only[go_sem,s1,s6,s7,s8,Nd.cells,hl,qP];refine aZ Uk ?_;simp+decide-dsimp only[go_sem,s1,s6,s7,s8,hw];exact⟨_,(ah:n.aJ.length-(i+1)<_),i+1,hl,by simp[Nd.cells]⟩
 .have Iz:n.aJ.length+1<9223372036854775808:=ah;have nT:(!n.bd&& !decide (n.cR=[]))=false:=by
   cases hb:n.bd with
   |true=>rfl
   |false=>simp[hR.hi hb]
  cases hb:n.bd with
  |true=>
   cases jL:n.aE with
   |true=>obtain⟨e1,e2⟩:=hR.lf jL;simp+decide-dsimp only[go_sem,s1,s7,s8,Nd.cells,hl,hb,jL,e1,e2];exact .of (aH.refl.set (an _)) .cA
   |false=>obtain⟨e1,e2⟩:=hR.nd jL;simp+decide-dsimp only[go_sem,s1,s7,s8,Nd.cells,hl,hb,jL,e1,e2,Iz];exact .of (aH.refl.set (an _)) .cA
  |false=>
   have C4:=hR.hi hb;cases jL:n.aE with
   |true=>obtain⟨e1,e2⟩:=hR.lf jL;simp+decide-dsimp only[go_sem,s1,s7,s8,Nd.cells,hl,hb,jL,e1,e2,C4];exact .of (aH.refl.set (an _)) .cA
   |false=>obtain⟨e1,e2⟩:=hR.nd jL;simp+decide-dsimp only[go_sem,s1,s7,s8,Nd.cells,hl,hb,jL,e1,e2,Iz,C4];exact .of (aH.refl.set (an _)) .cA
theorem afP(n:Nd):bo 242 [n.av] (bQ (decide (4<n.aJ.length))):=by refine bo.ac 1 T0 func242 λh nx=>?_;simp+decide-dsimp only[f242,go_sem,Nd.av,Nd.cells];refine .dT (aH.refl.set (an _)) .cA ?_;exact fN (λb=>AV.g (.bool b)) (eW.2 ah)
theorem ai'(n:Nd)(hR:n.R)(k:ba):bo 249 [n.av,bR k] (bQ (n.aE&&n.dI k)):=by
 refine bo.ac 2 T0 func249 λh nx=>?_;cases hl:n.aE with
 |true=>simp+decide-dsimp only[f249,go_sem,Nd.av,Nd.cells,hl];refine aZ (by have:=Rn n hR;rw[Nd.av,Nd.cells,hl]at this;exact this) ?_;simp+decide-dsimp only[go_sem];refine aZ (by have:=NM n k;rw[Nd.av,Nd.cells,hl]at this;exact this) ?_;simp+decide-dsimp only[go_sem];exact .of (aH.refl.set (an _)) .cA
 |false=>simp+decide-dsimp only[f249,go_sem,Nd.av,Nd.cells,hl];exact .of (aH.refl.set (an _)) .cA
def Nd.iU(n:Nd)(k:ba):Nat:=place n.aJ k+if n.has k then 1 else 0
theorem Nd.R.A3{n:Nd}(hR:n.R)(hl:n.aE=false)(k:ba):n.iU k<n.bU.length:=by
 obtain⟨_,e⟩:=hR.nd hl;have:=iE n.aJ k;unfold Nd.iU Nd.has;split;.rename_i h;simp at h;omega
 .omega
theorem YN(n:Nd)(hR:n.R)(hl:n.aE=false)(k:ba)(hc:n.dI k=true):bo 245 [n.av,bR k] (.dN [(n.bU.getD (n.iU k) default).av,bQ true]):=by
 refine bo.ac 2 T0 func245 λh nx=>?_;have hs:=hR.small;have hk:=hR.A3 hl k;have hp:=iE n.aJ k;have hw:place n.aJ k+1<9223372036854775808:=ah;have IY:=NM n k;rw[show(!n.bd||decide (k<n.cR))=true from hc]at IY;simp+decide-dsimp only[f245,go_sem,Nd.av,Nd.cells,hl];refine aZ (by have:=Rn n hR;rw[Nd.av,Nd.cells,hl]at this;exact this) ?_;simp+decide-dsimp only[go_sem];refine aZ (by rw[Nd.av,Nd.cells,hl]at IY;exact IY) ?_;simp+decide-dsimp only[go_sem];refine aZ (by have:=ML n k ah;rw[Nd.av,Nd.cells,hl]at this;exact this) ?_;cases hh:n.has k with
 |true=>unfold Nd.iU at hk⊢;rw[hh,aw rfl]at hk;simp only[hh,cz];simp+decide-dsimp only[go_sem,hw,hk,Hd.cells,reduceAdd];exact .dT (((aH.refl.set (an _)).set (bz _)).set (bz _)) (.cQ (.jS ⟨trivial,trivial,trivial⟩ trivial)) rfl
 |false=>unfold Nd.iU at hk⊢;rw[hh,ak bL,dD]at hk;simp+decide-dsimp only[go_sem,hh,hk,Hd.cells,reduceAdd];exact .dT (((aH.refl.set (an _)).set (bz _)).set (bz _)) (.cQ (.jS ⟨trivial,trivial,trivial⟩ trivial)) rfl
theorem Own.aX{c:α->List AV}{e:Nat}{v:AV}{l:List α}(o:Own c e sz h v l)(hk:∀b,bZ v=some b->au h' b=au h b):Own c e sz h' v l:=by
 rcases o with o|⟨b,cap,A,rfl,hA,h1,h2,h3⟩;.exact .inl o
 .exact .inr ⟨b,cap,A,rfl,by rw[hk b rfl];exact hA,h1,h2,h3⟩
theorem Own.cells{α:Type}{c:α->List AV}{e sz:Nat}{h:aG}{v:AV}{l:List α}(o:Own c e sz h v l):AV.cells v=some [v]/\AV.cy v=true:=by rcases o with⟨rfl,_⟩|⟨b,cap,A,rfl,_⟩<;>exact⟨rfl,rfl⟩
theorem gU.mem{l:List AV}(h:∀x∈l,sB nx x):gU nx l:=gU.iff.2 h
theorem Own.fz{c:α->List AV}{e:Nat}{v:AV}{l:List α}{hi:Nat}(o:Own c e sz h v l)(lB:In nx hi v)(hc:∀x,∀y∈c x,sB nx y):Fz h nx v (Jm c l):=by
 rcases o with⟨rfl,rfl⟩|⟨b,cap,A,rfl,hA,h1,h2,h3⟩;.exact .nil
 .refine .sl (q:=l.length*sz) (lB b rfl).1 hA rfl h1 ?_;rw[j9,h3];refine .cQ (gU.mem λy hy=>?_);obtain⟨x,_,hx⟩:=dp.1 hy;exact hc x y hx
theorem kJ:∀x,∀y∈fH x,sB nx y:=λx y h=>by simp[fH]at h;subst h;exact trivial
theorem sN:∀x,∀y∈Hd.cells x,sB nx y:=λx y h=>by simp[Hd.cells]at h;rcases h with rfl|rfl<;>exact trivial
structure PY(h:aG)(lo hi:Nat)(K V H:AV)(n:Nd):Prop where
 k:Own fH 9 1 h K n.aJ
 v:Own fH 9 1 h V n.fQ
 c:Own Hd.cells 245 2 h H n.bU
 ik:In lo hi K
 iv:In lo hi V
 ic:In lo hi H
 kv:∀b,bZ K=some b->bZ V≠some b
 kc:∀b,bZ K=some b->bZ H≠some b
 vc:∀b,bZ V=some b->bZ H≠some b
def Nd.UY(n:Nd)(K V H:AV):AV:= .agg [bQ n.aE,K,V,H,bR n.cR,bQ n.bd,int n.next.ao,u64 n.next.bk]
theorem PY.fz{h:aG}{nx hi:Nat}{K V H:AV}{n:Nd}(o:PY h nx hi K V H n):Fz h nx (n.UY K V H) n.av:=
 .agg (.cons .cA (.cons (o.k.fz o.ik kJ) (.cons (o.v.fz o.iv kJ) (.cons (o.c.fz o.ic sN) (.cons .bR (.cons .cA (.cons .cA (.cons .cA .nil))))))))
theorem In.aeJ{a c d:Nat}{K:AV}(h1:In a b K)(h2:In c d V)(hbc:b<=c):∀x,bZ K=some x->bZ V≠some x:=λx e1 e2=>by have:=h1 x e1;have:=h2 x e2;omega
theorem Ui(n:Nd)(hk:n.aJ.length<65536)(hv:n.fQ.length<65536)(hc:n.bU.length<65536)(h:aG)(nx:Nat):aA prog 248 [n.av] h nx λv h' nx'=>∃K V H,v=n.UY K V H/\PY h' nx nx' K V H n/\aH nx h h':=by
 refine aA.ac 1 T0 func248 ?_;simp+decide-dsimp only[f248,go_sem,Nd.av,Nd.cells];refine cf (a39 _ hk _ _) λK h1 cm l1 ⟨q1,q2,q3⟩=>?_;have q1':∀b,b<nx+1+1->au h1 b=_:=q1;simp+decide-dsimp only[go_sem,q1',q3.cells.1,q3.cells.2];refine cf (a39 _ hv _ _) λV h2 dU l2 ⟨r1,r2,r3⟩=>?_;have r1':∀b,b<cm->au h2 b=_:=r1;have n1:nx<cm:=ah;have n2:nx+1<cm:=ah;simp+decide-dsimp only[go_sem,r1',n1,r3.cells.1,r3.cells.2];refine cf (alz _ hc _ _) λH h3 nx3 l3 ⟨s1,s2,s3⟩=>?_;have s1':∀b,b<dU->au h3 b=_:=s1;have n3:nx<dU:=ah;have n4:nx+1<dU:=ah;simp+decide-dsimp only[go_sem,s1',n3,n4,r1',n1,n2,q1',s3.cells.1,s3.cells.2,q3.cells.2,r3.cells.2,reduceAdd];refine⟨K,V,H,rfl,⟨?_,?_,?_,q2.le ah ah,r2.le ah ah,s2.le ah ah,q2.aeJ r2 (an _),q2.aeJ s2 ah,r2.aeJ s2 (an _)⟩,?_⟩;.refine q3.aX λb e=>?_;have:=q2 b e;rw[aj,ak ah,aj,ak ah,s1 b ah,aj,ak ah,r1 b ah,aj,ak ah]
 .refine r3.aX λb e=>?_;have:=r2 b e;rw[aj,ak ah,aj,ak ah,s1 b ah,aj,ak ah]
 .refine s3.aX λb e=>?_;have:=s2 b e;rw[aj,ak ah,aj,ak ah]
 .intro b hb;rw[aj,ak ah,aj,ak ah,s1 b ah,aj,ak ah,r1 b ah,aj,ak ah,q1 b ah,aj,ak ah,aj,ak ah]
variable{b' c':AV}
def ins{α:Type}(l:List α)(i:Nat)(x:α):List α:=l.take i++x::l.drop i
def Nd.put(n:Nd)(k v:ba):Nd:=if n.has k then{n with fQ:=n.fQ.set (place n.aJ k) v}else{n with aJ:=ins n.aJ (place n.aJ k) k,fQ:=ins n.fQ (place n.aJ k) v}
def Nd.old(n:Nd)(k:ba):ba:=if n.has k then n.fQ.getD (place n.aJ k) []else[]
theorem ako{hi:Nat}{K H:AV}{n:Nd}(k:Own fH 9 1 h K n.aJ)(v:Own fH 9 1 h V n.fQ)(c:Own Hd.cells 245 2 h H n.bU)(ik:In nx hi K)(iv:In nx hi V)(ic:In nx hi H):Fz h nx (n.UY K V H) n.av:=
 .agg (.cons .cA (.cons (k.fz ik kJ) (.cons (v.fz iv kJ) (.cons (c.fz ic sN) (.cons .bR (.cons .cA (.cons .cA (.cons .cA .nil))))))))
theorem Hf{hi:Nat}{K H:AV}{n:Nd}{lf:Bool}(e:n.aE=lf)(k:Own fH 9 1 h K n.aJ)(v:Own fH 9 1 h V n.fQ)(c:Own Hd.cells 245 2 h H n.bU)(ik:In nx hi K)(iv:In nx hi V)(ic:In nx hi H):Fz h nx (.agg [bQ lf,K,V,H,bR n.cR,bQ n.bd,int n.next.ao,u64 n.next.bk]) n.av:=by subst e;exact ako k v c ik iv ic
theorem Fz.lZ{b c a':AV}(h1:Fz h nx a a')(h2:Fz h nx b b')(h3:Fz h nx c c'):Fz h nx (.dN [a,b,c]) (.dN [a',b',c']):= .dN (.cons h1 (.cons h2 (.cons h3 .nil)))
theorem Own.at{h:aG}{v:AV}{l:List ba}(o:Own fH 9 1 h v l){i:Nat}(hi:i<l.length):∃b cap A,v= .sl b 0 l.length cap/\au h b=some (.cells A 9)/\l.length<=cap/\A.length=cap*1/\A.take (l.length*1)=l.flatMap fH/\iW (i*1) A=some (bR (l.getD i [])):=by
 rcases o with⟨_,rfl⟩|⟨b,cap,A,rfl,hA,h1,h2,h3⟩;.simp at hi
 .refine⟨b,cap,A,rfl,hA,h1,h2,h3,?_⟩;have e:∀(n:Nat) (A:List AV),iW n A=A[n]?:=by
   intro n
   induction n with
   |zero=>intro A;cases A<;>rfl
   |succ n ih=>intro A;cases A with
    |nil=>rfl
    |cons a A=>show iW n A=_;rw[ih];simp
  rw[e];have h4:A[i*1]?=(A.take (l.length*1))[i*1]?:=by rw[gK ah]
  have h5:∀(l:List ba) (i:Nat),i<l.length->(l.flatMap fH)[i*1]?=some (bR (l.getD i [])):=by
   intro l
   induction l with
   |nil=>intro i hi;simp at hi
   |cons x l ih=>
    intro i hi;cases i with
    |zero=>rfl
    |succ i=>rw[bG];simpa[fH]using ih i (by simpa using hi)
  rw[h4,h3,h5 l i hi]
theorem Own.set{h:aG}{b cap:Nat}{A:List AV}{l:List ba}(h1:l.length<=cap)(h2:A.length=cap*1)(h3:A.take (l.length*1)=l.flatMap fH){i:Nat}(hi:i<l.length)(x:ba):
 Own fH 9 1 (aK h b (.cells (A.take (i*1)++[bR x]++A.drop (i*1+1)) 9)) (.sl b 0 l.length cap) (l.set i x):=by
 refine .inr ⟨b,cap,_,by rw[eJ],gl,by rw[eJ];exact h1,?_,?_⟩;.simp only[aq,ax,aC,bD,eB];omega
 .have e:∀(l:List ba) (A:List AV) (i:Nat),i<l.length->l.length<=A.length->A.take l.length=l.flatMap fH->(A.take i++[bR x]++A.drop (i+1)).take l.length=(l.set i x).flatMap fH:=by
   intro l
   induction l with
   |nil=>intro A i hi;simp at hi
   |cons y l ih=>
    intro A i hi hA ht;cases A with
    |nil=>simp at hA
    |cons a A=>
     rw[bD,lE,bG]at ht;injection ht with ht1 IQ
     cases i with
     |zero=>simp only[dv,ch,lN,j9,bD,List.singleton_append,lE,IB,bG];rw[IQ];rfl
     |succ i=>have:=ih A i (by simpa using hi) (by simpa using hA) IQ;simp only[lE,lN,bD,jY,List.set_cons_succ,bG];rw[ht1,<-this];rfl
  rw[eJ];have:=e l A i hi ah (by simpa using h3);simpa using this
theorem al1(n:Nd)(hR:n.R)(hl:n.aE=true)(k v:ba)(hc:n.dI k=true):bo 241 [n.av,bR k,bR v] (.dN [(n.put k v).av,bR (n.old k),bQ (n.has k)]):=by
 obtain⟨Wk,xT⟩:=hR.lf hl;have hs:=hR.small;have hp:=iE n.aJ k;refine bo.ac 3 T0 func241 λh nx=>?_;simp+decide-dsimp only[f241,go_sem,Nd.av,Nd.cells];refine cf (Ui n ah ah (by rw[xT];show 0<_;omega) _ _) λ_ h1 cm l1 ⟨K,V,H,e,o,s⟩=>?_;subst e;have s':∀b,b<nx+1+1->au h1 b=_:=s;simp+decide-dsimp only[go_sem,s',Nd.UY,o.k.cells.2,o.v.cells.2,o.c.cells.2,reduceAdd];refine aZ (ai' n hR k) ?_;simp+decide-dsimp only[go_sem,s',hl,hc];refine aZ (by have:=ML n k ah;rw[Nd.av,Nd.cells,hl]at this;exact this) ?_;cases hh:n.has k with
 |true=>
  have sM:place n.aJ k<n.aJ.length:=by unfold Nd.has at hh;simp at hh;exact hh.1
  obtain⟨b,cap,A,rfl,hA,g1,g2,g3,g4⟩:=o.v.at (i:=place n.aJ k) ah;have hb:=o.iv b rfl;have hpv:place n.aJ k<n.fQ.length:=ah;have d1:¬(b=nx+1):=ah;have d2:¬(nx+1=b):=ah;have d3:¬(nx=b):=ah;have Cz:dJ (place n.aJ k*1) A [bR v]=some _:=cp _ _ _ (by rw[g2];show _+1<=_;omega);simp+decide-dsimp only[go_sem,hpv,d1,hA,g4];simp+decide-dsimp only[go_sem,d2,Cz,o.k.cells.2,o.c.cells.2,reduceAdd];have hpe:n.put k v={n with fQ:=n.fQ.set (place n.aJ k) v}:=by unfold Nd.put;rw[hh];rfl
  have hoe:n.old k=n.fQ.getD (place n.aJ k) []:=by unfold Nd.old;rw[hh];rfl
  rw[hpe,hoe];refine .of ?_ (.lZ ?_ .bR .cA);.intro q hq;rw[aj,ak ah,aj,ak ah,aj,ak ah,s q ah,aj,ak ah,aj,ak ah]
  .refine Hf (hi:=cm) (n:={n with fQ:=n.fQ.set (place n.aJ k) v}) hl (o.k.aX λq e=>?_) ((Own.set (h:=h1) g1 g2 g3 hpv v).aX λq e=>?_) (o.c.aX λq e=>?_) (o.ik.le ah (an _)) (o.iv.le ah (an _)) (o.ic.le ah (an _));.have h1:=o.ik q e;have h2:q≠b:=λe'=>o.kv q e (by rw[e'];rfl);rw[aj,ak ah,aj,ak h2,aj,ak ah]
   .cases e;rw[aj,ak ah,aj,aw rfl,aj,aw rfl]
   .have h1:=o.ic q e;have h2:q≠b:=λe'=>o.vc b rfl (by rw[<-e'];exact e);rw[aj,ak ah,aj,ak h2,aj,ak ah]
 |false=>
  have hpe:n.put k v={n with aJ:=ins n.aJ (place n.aJ k) k,fQ:=ins n.fQ (place n.aJ k) v}:=by unfold Nd.put;rw[hh];rfl
  have hoe:n.old k=[]:=by unfold Nd.old;rw[hh];rfl
  rw[hpe,hoe];simp+decide-dsimp only[go_sem];refine cf (acY n.aJ ah K _ hp k cm _ _ (o.k.aX λq e=>?_) (o.ik.le (aY _) (bz _)) (aW _) (λe=>by have:=o.ik _ e;omega) (by rw[aj,aw rfl];rfl)) λK' h2 dU l2 ⟨f1,f2,f3⟩=>?_;.have:=o.ik q e;rw[aj,ak ah,aj,ak ah]
  have k1:au h2 (nx+1)=_:=(f1 (nx+1) ah λe=>by have:=o.ik _ e;omega).trans ((xM (aP (aW _) l1) (an _)).trans gl);simp+decide-dsimp only[go_sem,k1,f3.cells.1,f3.cells.2];have oV:∀q,bZ V=some q->au h2 q=au h1 q:=λq e=>by have a1:=o.iv q e;rw[f1 q ah (λe'=>o.kv q e' e),aj,ak ah,aj,ak ah]
  have oH:∀q,bZ H=some q->au h2 q=au h1 q:=λq e=>by have a1:=o.ic q e;rw[f1 q ah (λe'=>o.kc q e' e),aj,ak ah,aj,ak ah]
  refine cf (acY n.fQ ah V _ ah v dU _ _ ((o.v.aX oV).aX λq e=>?_) (o.iv.le (aY _) ah) (aW _) (λe=>by have:=o.iv _ e;omega) (by rw[aj,aw rfl];rfl)) λV' h3 nx3 l3 ⟨p1,p2,p3⟩=>?_;.have:=o.iv q e;rw[aj,ak ah,aj,ak ah]
  have k2:au h3 (nx+1)=_:=(p1 (nx+1) ah λe=>by have:=o.iv _ e;omega).trans ((xM (show nx+1<dU from ah) (an _)).trans gl);simp+decide-dsimp only[go_sem,k2,f3.cells.2,p3.cells.1,p3.cells.2,o.c.cells.2,reduceAdd];have bK:∀q,bZ K'=some q->(nx+2<=q/\q<dU)/\au h3 q=au h2 q:=λq e=>by
   rcases f2 q e with e1|e1;.have:=o.ik q e1;refine⟨ah,?_⟩;rw[p1 q ah (o.kv q e1),aj,ak ah,aj,ak ah]
   .refine⟨ah,?_⟩;rw[p1 q ah (λe2=>by have:=o.iv q e2;omega),aj,ak ah,aj,ak ah]
  have bV:∀q,bZ V'=some q->nx+2<=q/\q<nx3:=λq e=>by
   rcases p2 q e with e1|e1;.have:=o.iv q e1;omega
   .omega
  have bH:∀q,bZ H=some q->(nx+2<=q/\q<cm)/\au h3 q=au h1 q:=λq e=>by have:=o.ic q e;refine⟨ah,?_⟩;rw[p1 q ah (λe'=>o.vc q e' e),aj,ak ah,aj,ak ah,oH q e]
  refine .of ?_ (.lZ ?_ .bR .cA);.intro q hq;rw[aj,ak ah,aj,ak ah,p1 q ah (λe=>by have:=o.iv q e;omega),aj,ak ah,aj,ak ah,f1 q ah (λe=>by have:=o.ik q e;omega),aj,ak ah,aj,ak ah,s q ah,aj,ak ah,aj,ak ah]
  .refine Hf (hi:=nx3) (n:={n with aJ:=ins n.aJ (place n.aJ k) k,fQ:=ins n.fQ (place n.aJ k) v}) hl (f3.aX λq e=>?_) (p3.aX λq e=>?_) (o.c.aX λq e=>?_) (λq e=>?_) (λq e=>?_) (λq e=>?_);.have:=bK q e;rw[aj,ak ah,aj,ak ah,this.2]
   .have:=bV q e;rw[aj,ak ah,aj,ak ah]
   .have:=bH q e;rw[aj,ak ah,aj,ak ah,this.2]
   .have:=bK q e;omega
   .have:=bV q e;omega
   .have:=bH q e;omega
def Nd.del(n:Nd)(k:ba):Nd:=if n.has k then{n with aJ:=n.aJ.eraseIdx (place n.aJ k),fQ:=n.fQ.eraseIdx (place n.aJ k)}else n
theorem ald(n:Nd)(hR:n.R)(hl:n.aE=true)(k:ba)(hc:n.dI k=true):bo 237 [n.av,bR k] (.dN [(n.del k).av,bR (n.old k),bQ (n.has k)]):=by
 obtain⟨Wk,xT⟩:=hR.lf hl;have hs:=hR.small;have hp:=iE n.aJ k;refine bo.ac 2 T0 func237 λh nx=>?_;simp+decide-dsimp only[f237,go_sem,Nd.av,Nd.cells];refine cf (Ui n ah ah (by rw[xT];show 0<_;omega) _ _) λ_ h1 cm l1 ⟨K,V,H,e,o,s⟩=>?_;subst e;have s':∀b,b<nx+1+1->au h1 b=_:=s;simp+decide-dsimp only[go_sem,s',Nd.UY,o.k.cells.2,o.v.cells.2,o.c.cells.2,reduceAdd];refine aZ (ML n k ah) ?_;cases hh:n.has k with
 |false=>
  have hpe:n.del k=n:=by unfold Nd.del;rw[hh];rfl
  have hoe:n.old k=[]:=by unfold Nd.old;rw[hh];rfl
  rw[hpe,hoe];simp+decide-dsimp only[go_sem,s',o.k.cells.2,o.v.cells.2,o.c.cells.2,reduceAdd];refine .of ?_ (.lZ (Hf (hi:=cm) rfl (o.k.aX λq e=>?_) (o.v.aX λq e=>?_) (o.c.aX λq e=>?_) (o.ik.le ah (an _)) (o.iv.le ah (an _)) (o.ic.le ah (an _))) .bR .cA);.intro q hq;rw[aj,ak ah,aj,ak ah,s q ah,aj,ak ah,aj,ak ah]
  .have:=o.ik q e;rw[aj,ak ah,aj,ak ah]
  .have:=o.iv q e;rw[aj,ak ah,aj,ak ah]
  .have:=o.ic q e;rw[aj,ak ah,aj,ak ah]
 |true=>
  have hpe:n.del k={n with aJ:=n.aJ.eraseIdx (place n.aJ k),fQ:=n.fQ.eraseIdx (place n.aJ k)}:=by unfold Nd.del;rw[hh];rfl
  have hoe:n.old k=n.fQ.getD (place n.aJ k) []:=by unfold Nd.old;rw[hh];rfl
  rw[hpe,hoe];have sM:place n.aJ k<n.aJ.length:=by unfold Nd.has at hh;simp at hh;exact hh.1
  have hpv:place n.aJ k<n.fQ.length:=ah;have hw:place n.aJ k+1<9223372036854775808:=ah;simp+decide-dsimp only[go_sem,s'];refine aZ (ai' n hR k) ?_;obtain⟨b,cap,A,hVe,hA,g1,g2,g3,g4⟩:=o.v.at hpv;have hb:=o.iv b (by rw[hVe];rfl);have d1:¬(b=nx+1):=ah;have i1:rT (some (.slice 9)) (cN prog) V (int (place n.aJ k))=some (.val (.ptr b (place n.aJ k*1))):=by rw[hVe,Ag hpv,Pv,dC,fx]
  simp+decide-dsimp only[go_sem,hl,hc,i1,d1,hA,g4,hw];refine cf (ajI n.aJ ah K _ sM _ _ (o.k.aX λq e=>?_) (o.ik.le (aY _) (an _))) λK' h2 dU l2 ⟨f1,f2,f3⟩=>?_;.have:=o.ik q e;rw[aj,ak ah]
  have k1:au h2 (nx+1)=_:=(f1 (nx+1) ah λe=>by have:=o.ik _ e;omega).trans gl;simp+decide-dsimp only[go_sem,k1,f3.cells.1,f3.cells.2,hw];have oV:∀q,bZ V=some q->au h2 q=au h1 q:=λq e=>by have a1:=o.iv q e;rw[f1 q ah (λe'=>o.kv q e' e),aj,ak ah]
  refine cf (ajI n.fQ ah V _ hpv _ _ ((o.v.aX oV).aX λq e=>?_) (o.iv.le (aY _) ah)) λV' h3 nx3 l3 ⟨p1,p2,p3⟩=>?_;.have:=o.iv q e;rw[aj,ak ah]
  have k2:au h3 (nx+1)=_:=(p1 (nx+1) ah λe=>by have:=o.iv _ e;omega).trans gl;simp+decide-dsimp only[go_sem,k2,f3.cells.2,p3.cells.1,p3.cells.2,o.c.cells.2,reduceAdd];have bK:∀q,bZ K'=some q->(nx+2<=q/\q<cm)/\au h3 q=au h2 q:=λq e=>by rw[f2]at e;have:=o.ik q e;refine⟨ah,?_⟩;rw[p1 q ah (o.kv q e),aj,ak ah]
  have bV:∀q,bZ V'=some q->nx+2<=q/\q<cm:=λq e=>by rw[p2]at e;have:=o.iv q e;omega
  have bH:∀q,bZ H=some q->(nx+2<=q/\q<cm)/\au h3 q=au h1 q:=λq e=>by have:=o.ic q e;refine⟨ah,?_⟩;rw[p1 q ah (λe'=>o.vc q e' e),aj,ak ah,f1 q ah (λe'=>o.kc q e' e),aj,ak ah]
  refine .of ?_ (.lZ (Hf (hi:=cm) (n:={aE:=true,aJ:=n.aJ.eraseIdx (place n.aJ k),fQ:=n.fQ.eraseIdx (place n.aJ k),bU:=n.bU,cR:=n.cR,bd:=n.bd,next:=n.next}) rfl (f3.aX λq e=>?_) (p3.aX λq e=>?_) (o.c.aX λq e=>?_) (λq e=>?_) (λq e=>?_) (λq e=>?_)) .bR .cA);.intro q hq;rw[aj,ak ah,aj,ak ah,p1 q ah (λe=>by have:=o.iv q e;omega),aj,ak ah,f1 q ah (λe=>by have:=o.ik q e;omega),aj,ak ah,s q ah,aj,ak ah,aj,ak ah]
  .have:=bK q e;rw[aj,ak ah,aj,ak ah,this.2]
  .have:=bV q e;rw[aj,ak ah,aj,ak ah]
  .have:=bH q e;rw[aj,ak ah,aj,ak ah,this.2]
  .have:=bK q e;omega
  .have:=bV q e;omega
  .have:=bH q e;omega
variable{P:Program}{t:TypeId}{x y:Operand}
def Nd.add(n:Nd)(k:ba)(x:Hd):Nd:={n with aJ:=ins n.aJ (place n.aJ k) k,bU:=ins n.bU (place n.aJ k+1) x}
theorem agf(n:Nd)(hR:n.R)(hl:n.aE=false)(k:ba)(x:Hd)(hc:n.dI k=true)(hh:n.has k=false):bo 253 [n.av,bR k,x.av] (n.add k x).av:=by
 obtain⟨Wk,xT⟩:=hR.nd hl;have hs:=hR.small;have hp:=iE n.aJ k;have hw:place n.aJ k+1<9223372036854775808:=ah;refine bo.ac 3 T0 func253 λh nx=>?_;simp+decide-dsimp only[f253,go_sem,Nd.av,Nd.cells,Hd.av,Hd.cells];refine cf (Ui n ah (by rw[Wk];show 0<_;omega) ah _ _) λ_ h1 cm l1 ⟨K,V,H,e,o,s⟩=>?_;subst e;have s':∀b,b<nx+1+1+1->au h1 b=_:=s;have d1:¬(nx=cm):=ah;have d2:¬(nx+1=cm):=ah;have d3:¬(nx+1+1=cm):=ah;simp+decide-dsimp only[go_sem,s',d1,Nd.UY,o.k.cells.2,o.v.cells.2,o.c.cells.2,reduceAdd];refine aZ (ML n k ah) ?_;rw[hh];simp+decide-dsimp only[go_sem,s',d1,hl];refine aZ (by have:=Rn n hR;rw[Nd.av,Nd.cells,hl]at this;exact this) ?_;simp+decide-dsimp only[go_sem,s',d1,hl];refine aZ (by have:=NM n k;rw[show(!n.bd||decide (k<n.cR))=true from hc,Nd.av,Nd.cells,hl]at this;exact this) ?_;simp+decide-dsimp only[go_sem];refine cf (acY n.aJ ah K _ hp k (cm+1) _ _ (o.k.aX λq e=>?_) (o.ik.le (aY _) ah) (aW _) (λe=>by have:=o.ik _ e;omega) (by rw[aj,aw rfl];rfl)) λK' h2 dU l2 ⟨f1,f2,f3⟩=>?_;.have:=o.ik q e;rw[aj,ak ah,aj,ak ah,aj,ak ah]
 have k1:au h2 cm=_:=(f1 cm ah λe=>by have:=o.ik _ e;omega).trans ((xM (aW _) (an _)).trans gl);have k0:au h2 (nx+1)=some (.cells [int x.ao,u64 x.bk] 245):=(f1 (nx+1) ah λe=>by have:=o.ik _ e;omega).trans (by rw[aj,ak ah,aj,ak ah,aj,ak ah,s (nx+1) ah,aj,ak ah,aj,aw rfl]);have d5:¬(nx+1=dU):=ah;simp+decide-dsimp only[go_sem,k1,k0,d2,f3.cells.1,f3.cells.2,hw,reduceAdd];have oH:∀q,bZ H=some q->au h2 q=au h1 q:=λq e=>by have a1:=o.ic q e;rw[f1 q ah (λe'=>o.kc q e' e),aj,ak ah,aj,ak ah,aj,ak ah]
 have oV:∀q,bZ V=some q->au h2 q=au h1 q:=λq e=>by have a1:=o.iv q e;rw[f1 q ah (λe'=>o.kv q e' e),aj,ak ah,aj,ak ah,aj,ak ah]
 refine cf (ahA n.bU ah H _ ah x dU _ _ ((o.c.aX oH).aX λq e=>?_) (o.ic.le (aY _) ah) (aW _) (λe=>by have:=o.ic _ e;omega) (by rw[aj,aw rfl];rfl)) λH' h3 nx3 l3 ⟨p1,p2,p3⟩=>?_;.have:=o.ic q e;rw[aj,ak ah,aj,ak ah]
 have k2:au h3 cm=_:=(p1 cm ah λe=>by have:=o.ic _ e;omega).trans ((xM (show cm<dU from ah) (an _)).trans gl);have k3:au h3 (nx+1+1)=some (.cells _ 247):=(p1 (nx+1+1) ah λe=>by have:=o.ic _ e;omega).trans ((by rw[aj,ak ah,aj,ak ah,f1 (nx+1+1) ah (λe=>by have:=o.ik _ e;omega),aj,ak ah,aj,ak ah,aj,ak ah,s (nx+1+1) ah,aj,aw rfl]));simp+decide-dsimp only[go_sem,k2,k3,d3,f3.cells.2,p3.cells.1,p3.cells.2,o.v.cells.2,reduceAdd];have bK:∀q,bZ K'=some q->(nx+3<=q/\q<dU/\q≠cm)/\au h3 q=au h2 q:=λq e=>by
  rcases f2 q e with e1|e1;.have:=o.ik q e1;refine⟨ah,?_⟩;rw[p1 q ah (o.kc q e1),aj,ak ah,aj,ak ah]
  .refine⟨ah,?_⟩;rw[p1 q ah (λe2=>by have:=o.ic q e2;omega),aj,ak ah,aj,ak ah]
 have bH:∀q,bZ H'=some q->nx+3<=q/\q<nx3/\q≠cm:=λq e=>by
  rcases p2 q e with e1|e1;.have:=o.ic q e1;omega
  .omega
 have bV:∀q,bZ V=some q->(nx+3<=q/\q<cm)/\au h3 q=au h1 q:=λq e=>by have:=o.iv q e;refine⟨ah,?_⟩;rw[p1 q ah (o.vc q e),aj,ak ah,aj,ak ah,oV q e]
 refine .of ?_ (Hf (hi:=nx3) (n:={n with aJ:=ins n.aJ (place n.aJ k) k,bU:=ins n.bU (place n.aJ k+1) x}) hl (f3.aX λq e=>?_) (o.v.aX λq e=>?_) (p3.aX λq e=>?_) (λq e=>?_) (λq e=>?_) (λq e=>?_));.intro q hq;rw[aj,ak ah,aj,ak ah,p1 q ah (λe=>by have:=o.ic q e;omega),aj,ak ah,aj,ak ah,f1 q ah (λe=>by have:=o.ik q e;omega),aj,ak ah,aj,ak ah,aj,ak ah,s q ah,aj,ak ah,aj,ak ah,aj,ak ah]
 .have:=bK q e;rw[aj,ak ah,aj,ak ah,this.2]
 .have:=bV q e;rw[aj,ak ah,aj,ak ah,this.2]
 .have:=bH q e;rw[aj,ak ah,aj,ak ah]
 .have:=bK q e;omega
 .have:=bV q e;omega
 .have:=bH q e;omega
theorem Fz.As{c:α->List AV}{e:Nat}{m:Nat}{l:List α}(hz:∀x,(c x).length=sz)(hb:nx<=b)(hA:au h b=some (.cells A e))(ht:A.take (l.length*sz)=l.flatMap c)(hm:m<=l.length)(hc:∀x,∀y∈c x,sB nx y):Fz h nx (.sl b 0 m m) (Jm c (l.take m)):=by
 have hl:(l.take m).length=m:=by rw[ax];omega
 show Fz h nx _ (.fz _ _);rw[hl];refine .sl (q:=m*sz) hb hA rfl (an _) ?_;have:A.take (m*sz)=(l.take m).flatMap c:=by rw[<-fg hz,<-ht,bf,bM (aI _ hm)]
 rw[j9,this];refine zV.cQ (gU.mem λy hy=>?_);obtain⟨x,_,hx⟩:=dp.1 hy;exact hc x y hx
theorem Fz.zY{c:α->List AV}{e:Nat}{m:Nat}{l:List α}(hz:∀x,(c x).length=sz)(hb:nx<=b)(hA:au h b=some (.cells A e))(ht:A.take (l.length*sz)=l.flatMap c)(lX:l.length-m<=cap)(hc:∀x,∀y∈c x,sB nx y):Fz h nx (.sl b (m*sz) (l.length-m) cap) (Jm c (l.drop m)):=by
 show Fz h nx _ (.fz _ _);rw[aC];refine .sl (q:=(l.length-m)*sz) hb hA rfl lX ?_;have:(A.drop (m*sz)).take ((l.length-m)*sz)=(l.drop m).flatMap c:=by rw[<-dY hz,<-ht,fW,<-mn]
 rw[this];refine zV.cQ (gU.mem λy hy=>?_);obtain⟨x,_,hx⟩:=dp.1 hy;exact hc x y hx
theorem GU{l:Nat}(hl:l<9223372036854775808):cZ P h .quo t x y (int l) (int 2)=some (int (l / 2:Nat)):=by
 have:br P (do eqGuard .quo t x y (.int .i64 l) (.int .i64 2);binOp .quo t (.int .i64 l) (.int .i64 2))=some (.int .i64 (l / 2:Nat)):=by unfold binOp eqGuard Op.intDiv;simp only[bX];have h1:((l:Int).tdiv 2)=((l / 2:Nat):Int):=rfl;show some (Value.int .i64 (IntKind.i64.wrap ((l:Int).tdiv 2)))=_;rw[h1,<-gT,wrap_i64 ah ah]
 simp[cZ,eD,iG,AV.pd,ke,ts,this]
def X9:Nat->cU:=λid=>if id=13 then[(z8,[],some 9),([10],[],some 11),([],[],none)]else if id=15 then[(z10,[],some 11),([12],[],some 13),([],[],none)]else if id=16 then[([0,1,2],[],some 3),([4],[1],some 5),([6],[1],some 7),([],[],none)]else if id=17 then[([0,1,2],[],some 3),([],[1],some 4),([],[],some 5),([],[],none)]else[]
def Nd.lY(n:Nd):Nat:=n.aJ.length / 2
def Nd.sep(n:Nd):ba:=n.aJ.getD n.lY []
def Nd.left(n:Nd)(x:Hd):Nd:={aE:=n.aE,aJ:=n.aJ.take n.lY,fQ:=if n.aE then n.fQ.take n.lY else n.fQ,bU:=if n.aE then n.bU else n.bU.take (n.lY+1),cR:=n.sep,bd:=true,next:=x}
def Nd.right(n:Nd):Nd:={aE:=n.aE,aJ:=n.aJ.drop (if n.aE then n.lY else n.lY+1),fQ:=if n.aE then n.fQ.drop n.lY else n.fQ,bU:=if n.aE then n.bU else n.bU.drop (n.lY+1),cR:=n.cR,bd:=n.bd,next:=n.next}
theorem agz(n:Nd)(hR:n.R)(hl:n.aE=true)(h2:2<=n.aJ.length)(x:Hd):bo 252 [n.av,x.av] (.dN [(n.left x).av,n.right.av,bR n.sep]):=by
 obtain⟨Wk,xT⟩:=hR.lf hl;have hs:=hR.small;have hm:n.lY<n.aJ.length:=by unfold Nd.lY;omega
 have hm0:n.lY<=n.lY:=an _;have O5:n.lY<n.fQ.length:=ah;have hq:n.aJ.length<9223372036854775808:=ah;have Gq:¬((n.aJ.length:Int)<2):=ah;have r8:n.aJ.getD n.lY []=n.sep:=rfl;have hdv:n.aJ.length / 2=n.lY:=rfl;have zq:n.lY<=n.aJ.length:=ah;have hlv':n.lY<=n.fQ.length:=ah;have el:(n.left x).av= .agg [bQ true,strs (n.aJ.take n.lY),strs (n.fQ.take n.lY),r7 n.bU,bR n.sep,bQ true,int x.ao,u64 x.bk]:=by simp only[Nd.left,Nd.av,Nd.cells,hl,cz]
 have er:n.right.av= .agg [bQ true,strs (n.aJ.drop n.lY),strs (n.fQ.drop n.lY),r7 n.bU,bR n.cR,bQ n.bd,int n.next.ao,u64 n.next.bk]:=by simp only[Nd.right,Nd.av,Nd.cells,hl,cz]
 rw[el,er];have Jw:=Ui n ah ah (by rw[xT];show 0<_;omega);rw[Nd.av,Nd.cells,hl]at Jw;refine bo.ac 2 X9 func252 λh nx=>?_;simp+decide-dsimp only[f252,go_sem,Nd.av,Nd.cells,Hd.av,Hd.cells,hl];refine cf (Jw _ _) λ_ h1 cm l1 ⟨K1,V1,H1,e1,o1,s1⟩=>?_;subst e1;have s1':∀b,b<nx+1+1+1+1->au h1 b=_:=s1;simp+decide-dsimp only[go_sem,s1',Nd.UY,o1.k.cells.2,o1.v.cells.2,o1.c.cells.2,reduceAdd];refine aZ (by have:=Rn n hR;rw[Nd.av,Nd.cells,hl]at this;exact this) ?_;simp+decide-dsimp only[go_sem,s1',Gq];refine cf (Jw _ _) λ_ h2 dU l2 ⟨K2,V2,H2,e2,o2,s2⟩=>?_;subst e2;have s2':∀b,b<cm->au h2 b=_:=s2;have d1:nx<cm:=ah;have d2:nx+1<cm:=ah;have d3:nx+1+1<cm:=ah;have d4:nx+1+1+1<cm:=ah;simp+decide-dsimp only[go_sem,s2',s1',d1,d4,hq,hdv,hm,GU,Nd.UY,o2.k.cells.2,o2.v.cells.2,o2.c.cells.2,reduceAdd];rw[r8];obtain⟨bk1,ck1,Ak1,rfl,Ek1,gk1,_,tk1',_⟩:=o1.k.at hm;obtain⟨bv1,cv1,Av1,rfl,Ev1,gv1,_,tv1,_⟩:=o1.v.at O5;obtain⟨bk2,ck2,Ak2,rfl,Ek2,gk2,_,tk2,_⟩:=o2.k.at hm;obtain⟨bv2,cv2,Av2,rfl,Ev2,gv2,_,tv2,_⟩:=o2.v.at O5;have ik1:=o1.ik bk1 rfl;have iv1:=o1.iv bv1 rfl;have ik2:=o2.ik bk2 rfl;have iv2:=o2.iv bv2 rfl;have c1:n.lY<=ck1:=ah;have c2:n.lY<=cv1:=ah;have c3:¬(ck2=n.lY):=ah;have c4:¬(cv2=n.lY):=ah;simp+decide-dsimp only[go_sem,X9,s2',s1',d1,d2,d3,d4,hm0,zq,hlv',c1,c2,c3,c4,o1.c.cells.2,o2.c.cells.2,reduceAdd];refine .of ?_ (.lZ ?_ ?_ .bR)
 .intro q hq
  repeat rw[aj,ak ah]
  rw[s2 q ah]
  repeat rw[aj,ak ah]
  rw[s1 q ah]
  repeat rw[aj,ak ah]
 .rw[hl];refine .agg (.cons .cA (.cons (Fz.As (e:=9) (λ_=>rfl) ah (A:=Ak1) ?_ tk1' zq kJ) (.cons (Fz.As (e:=9) (λ_=>rfl) ah (A:=Av1) ?_ tv1 hlv' kJ) (.cons ((o1.c.aX λq e=>?_).fz (o1.ic.le ah (an _)) sN) (.cons .bR (.cons .cA (.cons .cA (.cons .cA .nil))))))))
  .repeat rw[aj,ak ah]
   rw[s2 _ ah]
   repeat rw[aj,ak ah]
   exact Ek1
  .repeat rw[aj,ak ah]
   rw[s2 _ ah]
   repeat rw[aj,ak ah]
   exact Ev1
  .have:=o1.ic q e
   repeat rw[aj,ak ah]
   rw[s2 _ ah]
   repeat rw[aj,ak ah]
 .rw[hl];refine .agg (.cons .cA (.cons (Fz.zY (e:=9) (λ_=>rfl) ah (A:=Ak2) ?_ tk2 ah kJ) (.cons (Fz.zY (e:=9) (λ_=>rfl) ah (A:=Av2) ?_ tv2 ah kJ) (.cons ((o2.c.aX λq e=>?_).fz (o2.ic.le ah (an _)) sN) (.cons .bR (.cons .cA (.cons .cA (.cons .cA .nil))))))))
  .repeat rw[aj,ak ah]
   exact Ek2
  .repeat rw[aj,ak ah]
   exact Ev2
  .have:=o2.ic q e
   repeat rw[aj,ak ah]
theorem ahX(n:Nd)(hR:n.R)(hl:n.aE=false)(h2:3<=n.aJ.length)(x:Hd):bo 252 [n.av,x.av] (.dN [(n.left x).av,n.right.av,bR n.sep]):=by
 obtain⟨Wk,xT⟩:=hR.nd hl;have hs:=hR.small;have hm:n.lY<n.aJ.length:=by unfold Nd.lY;omega
 have IK:n.lY+1<n.aJ.length:=by unfold Nd.lY;omega
 have hm0:n.lY<=n.lY:=an _;have JH:n.lY+1<=n.lY+1:=an _;have O5:n.lY+1<n.bU.length:=ah;have hq:n.aJ.length<9223372036854775808:=ah;have hw:n.lY+1<9223372036854775808:=ah;have Gq:¬((n.aJ.length:Int)<3):=ah;have r8:n.aJ.getD n.lY []=n.sep:=rfl;have hdv:n.aJ.length / 2=n.lY:=rfl;have zq:n.lY<=n.aJ.length:=ah;have alH:n.lY+1<=n.aJ.length:=ah;have hlv':n.lY+1<=n.bU.length:=ah;have el:(n.left x).av= .agg [bQ false,strs (n.aJ.take n.lY),strs n.fQ,r7 (n.bU.take (n.lY+1)),bR n.sep,bQ true,int x.ao,u64 x.bk]:=by simp only[Nd.left,Nd.av,Nd.cells,hl];rfl
 have er:n.right.av= .agg [bQ false,strs (n.aJ.drop (n.lY+1)),strs n.fQ,r7 (n.bU.drop (n.lY+1)),bR n.cR,bQ n.bd,int n.next.ao,u64 n.next.bk]:=by simp only[Nd.right,Nd.av,Nd.cells,hl];rfl
 rw[el,er];have Jw:=Ui n ah (by rw[Wk];show 0<_;omega) ah;rw[Nd.av,Nd.cells,hl]at Jw;refine bo.ac 2 X9 func252 λh nx=>?_;simp+decide-dsimp only[f252,go_sem,Nd.av,Nd.cells,Hd.av,Hd.cells,hl];refine cf (Jw _ _) λ_ h1 cm l1 ⟨K1,V1,H1,e1,o1,s1⟩=>?_;subst e1;have s1':∀b,b<nx+1+1+1+1->au h1 b=_:=s1;simp+decide-dsimp only[go_sem,s1',Nd.UY,o1.k.cells.2,o1.v.cells.2,o1.c.cells.2,reduceAdd];refine aZ (by have:=Rn n hR;rw[Nd.av,Nd.cells,hl]at this;exact this) ?_;simp+decide-dsimp only[go_sem,s1',Gq];refine cf (Jw _ _) λ_ h2 dU l2 ⟨K2,V2,H2,e2,o2,s2⟩=>?_;subst e2;have s2':∀b,b<cm->au h2 b=_:=s2;have d1:nx<cm:=ah;have d2:nx+1<cm:=ah;have d3:nx+1+1<cm:=ah;have d4:nx+1+1+1<cm:=ah;simp+decide-dsimp only[go_sem,s2',s1',d1,d4,hq,hdv,hm,GU,Nd.UY,o2.k.cells.2,o2.v.cells.2,o2.c.cells.2,reduceAdd];rw[r8];obtain⟨bk1,ck1,Ak1,rfl,Ek1,gk1,_,tk1',_⟩:=o1.k.at hm;obtain⟨bk2,ck2,Ak2,rfl,Ek2,gk2,_,tk2,_⟩:=o2.k.at hm;obtain⟨bv1,cv1,Av1,rfl,Ev1,gv1,_,tv1⟩:∃b cap A,H1= .sl b 0 n.bU.length cap/\au h1 b=some (.cells A 245)/\n.bU.length<=cap/\A.length=cap*2/\A.take (n.bU.length*2)=n.bU.flatMap Hd.cells:=by
  rcases o1.c with⟨_,e⟩|o;.rw[e]at O5;simp at O5
  .exact o
 obtain⟨bv2,cv2,Av2,rfl,Ev2,gv2,_,tv2⟩:∃b cap A,H2= .sl b 0 n.bU.length cap/\au h2 b=some (.cells A 245)/\n.bU.length<=cap/\A.length=cap*2/\A.take (n.bU.length*2)=n.bU.flatMap Hd.cells:=by
  rcases o2.c with⟨_,e⟩|o;.rw[e]at O5;simp at O5
  .exact o
 have ik1:=o1.ik bk1 rfl;have iv1:=o1.ic bv1 rfl;have ik2:=o2.ik bk2 rfl;have iv2:=o2.ic bv2 rfl;have c1:n.lY<=ck1:=ah;have c2:n.lY+1<=cv1:=ah;have c3:¬(ck2=n.lY+1):=ah;have c4:¬(cv2=n.lY+1):=ah;simp+decide-dsimp only[go_sem,X9,s2',s1',d1,d2,d3,d4,hw,hm0,JH,alH,hlv',c1,c2,c3,c4,o1.v.cells.2,o2.v.cells.2,reduceAdd];refine .of ?_ (.lZ ?_ ?_ .bR)
 .intro q hq
  repeat rw[aj,ak ah]
  rw[s2 q ah]
  repeat rw[aj,ak ah]
  rw[s1 q ah]
  repeat rw[aj,ak ah]
 .rw[hl];refine .agg (.cons .cA (.cons (Fz.As (e:=9) (λ_=>rfl) ah (A:=Ak1) ?_ tk1' zq kJ) (.cons ((o1.v.aX λq e=>?_).fz (o1.iv.le ah (an _)) kJ) (.cons (Fz.As (e:=245) gr ah (A:=Av1) ?_ tv1 hlv' sN) (.cons .bR (.cons .cA (.cons .cA (.cons .cA .nil))))))))
  .repeat rw[aj,ak ah]
   rw[s2 _ ah]
   repeat rw[aj,ak ah]
   exact Ek1
  .have:=o1.iv q e
   repeat rw[aj,ak ah]
   rw[s2 _ ah]
   repeat rw[aj,ak ah]
  .repeat rw[aj,ak ah]
   rw[s2 _ ah]
   repeat rw[aj,ak ah]
   exact Ev1
 .rw[hl];refine .agg (.cons .cA (.cons (Fz.zY (e:=9) (λ_=>rfl) ah (A:=Ak2) ?_ tk2 ah kJ) (.cons ((o2.v.aX λq e=>?_).fz (o2.iv.le ah (an _)) kJ) (.cons (Fz.zY (e:=245) gr ah (A:=Av2) ?_ tv2 ah sN) (.cons .bR (.cons .cA (.cons .cA (.cons .cA .nil))))))))
  .repeat rw[aj,ak ah]
   exact Ek2
  .have:=o2.iv q e
   repeat rw[aj,ak ah]
  .repeat rw[aj,ak ah]
   exact Ev2
theorem kr{α:Type}:∀(n:Nat) (A:List α),iW n A=A[n]?
 |0,[]=>rfl
 |0,_::_=>rfl
 |n+1,[]=>rfl
 |n+1,a::A=>by show iW n A=_;rw[kr n A];simp
theorem Fk{f:α->AV}{l:List α}{d:α}(hi:i<l.length):iW (i*1) (l.map f)=some (f (l.getD i d)):=by rw[kr];simp[hi,List.getD]
theorem alO(fr:List Bool)(fb c:Nat)(h:aG)(nx:Nat)(e:TypeId)(hf:au h fb=some (.cells (fr.map bQ) e))(hl:fr.length<65536)(w:Bool)(hx:∃i,i<fr.length/\fr.getD i (!w)=w):
 aA prog 169 [.sl fb 0 fr.length c,bQ w] h nx λv h' nx'=>∃i,i<fr.length/\fr.getD i (!w)=w/\dr (int i) h nx v h' nx':=by
 obtain⟨j,hj,hjt⟩:=hx;refine aA.ac 2 T0 func169 ?_;simp+decide-dsimp only[f169,go_sem];refine cL _ _ (λm s h' nx'=>∃i,i<=j/\m=j-i/\ao s 0= .sl fb 0 fr.length c/\ao s 1=bQ w/\ao s 7=int fr.length/\ao s 8=int i/\h'=h/\nx'=nx) (n:=j) ?_ ?_;.simp+decide-dsimp only[go_sem];exact⟨0,aY _,bL⟩
 rintro m s h' nx' ⟨i,hi,rfl,s0,s1,s7,s8,rfl,rfl⟩;have mV:i<fr.length:=ah;have hw:i+1<9223372036854775808:=ah;have hn:=Fk (f:=bQ) (d:= !w) mV;by_cases hc:fr.getD i (!w)=w
 .have hbe:(w==fr.getD i (!w))=true:=by rw[hc];simp
  simp+decide-dsimp only[go_sem,s0,s1,s7,s8,mV,hf,hn,hbe];exact⟨i,mV,hc,rfl,rfl,rfl⟩
 .have hbe:(w==fr.getD i (!w))=false:=by cases w<;>cases hb:fr.getD i _<;>simp_all
  simp+decide-dsimp only[go_sem,s0,s1,s7,s8,mV,hf,hn,hbe,hw];have:i<j:=by
   rcases bg i j with h|h;.exact h
   .have:i=j:=ah;subst this;exact absurd hjt hc
  exact⟨_,(ah:j-(i+1)<_),i+1,this,bL⟩
def gn(n:Nat):AV:=u64 n
structure bj where
 pb:Nat
 gb:Nat
 fb:Nat
 gs:List Nat
 fr:List Bool
structure bj.ok(p:bj)(h:aG)(nx:Nat):Prop where
 a:au h p.pb=some (.cells [.sl p.gb 0 p.fr.length p.fr.length,.sl p.fb 0 p.fr.length p.fr.length,int (p.fr.count true)] 137)
 g:au h p.gb=some (.cells (p.gs.map gn) 71)
 f:au h p.fb=some (.cells (p.fr.map bQ) 4)
 len:p.gs.length=p.fr.length
 small:p.fr.length<=4096
 ne1:¬(p.pb=p.gb)
 ne2:¬(p.pb=p.fb)
 ne3:¬(p.gb=p.fb)
 rY:p.pb<nx
 ss:p.gb<nx
 sr:p.fb<nx
def abh(nx:Nat)(p:bj)(h h':aG):Prop:=∀b,b<nx->b≠p.pb->b≠p.gb->b≠p.fb->au h' b=au h b
theorem OX{fr:List Bool}(h:fr.count true≠0):∃i,i<fr.length/\fr.getD i false=true:=by
 induction fr with
 |nil=>simp at h
 |cons b l ih=>
  cases b with
  |true=>exact⟨0,bL,rfl⟩
  |false=>obtain⟨i,h1,h2⟩:=ih (by simpa using h);exact⟨i+1,by simpa using h1,by simpa using h2⟩
theorem count_set{fr:List Bool}(hi:i<fr.length)(ht:fr.getD i false=true):(fr.set i false).count true+1=fr.count true:=by
 induction fr generalizing i with
 |nil=>simp at hi
 |cons b l ih=>
  cases i with
  |zero=>simp at ht;subst ht;simp
  |succ i=>have:=ih (i:=i) (by simpa using hi) (by simpa using ht);cases b<;>simp<;>omega
theorem Fo{f:α->AV}{l:List α}(hi:i<l.length)(x:α):dJ (i*1) (l.map f) [f x]=some ((l.set i x).map f):=by
 rw[cp _ _ _ fE]
 congr 1
 simp only[cJ,bD,eB,fx,oE];rw[iD,aw (by simpa using hi)];simp
theorem Qo(p:bj)(h:aG)(nx:Nat)(ok:p.ok h nx)(n:Nat):aA prog 239 [.ptr p.pb 0,int n] h nx (dr (bQ (decide (n<=p.fr.count true))) h nx):=by refine aA.ac 2 T0 func239 ?_;simp+decide-dsimp only[f239,go_sem,ok.a];exact⟨rfl,rfl,rfl⟩
theorem ac6(p:bj)(h:aG)(nx:Nat)(ok:p.ok h nx)(hc:p.fr.count true≠0):aA prog 146 [.ptr p.pb 0] h nx λv h' nx'=>
 ∃i,i<p.fr.length/\p.fr.getD i false=true/\v= .dN [(Hd.mk i (p.gs.getD i 0)).av,bQ true]/\({p with fr:=p.fr.set i false}:bj).ok h' nx'/\abh nx p h h':=by
 have hc0:¬((p.fr.count true:Int)=0):=ah;have tW:=ok.small;have xy:=List.count_le_length (a:=true) (l:=p.fr);have IN:1<=p.fr.count true:=ah;have NH:p.fr.count true<9223372036854775808:=ah;refine aA.ac 1 T0 func146 ?_;have l1:=ok.rY;have l2:=ok.ss;have l3:=ok.sr;have d1:¬(p.pb=nx):=ah;have d2:¬(p.gb=nx):=ah;have d3:¬(p.fb=nx):=ah;have d4:¬(nx=p.pb):=ah;have d6:¬(nx=p.fb):=ah;have n1:=ok.ne1;have n2:=ok.ne2;have n3:=ok.ne3;have n1':¬(p.gb=p.pb):=λe=>n1 e.symm;have RJ:¬(p.fb=p.pb):=λe=>n2 e.symm;simp+decide-dsimp only[f146,go_sem,d1,ok.a,hc0];refine cf (alO p.fr p.fb _ _ _ 4 (by rw[aj,ak d3];exact ok.f) ah true (OX hc)) λ_ h' nx' _ ⟨i,hi,ht,e1,e2,e3⟩=>?_;subst e1;subst e2;subst e3;have hig:i<p.gs.length:=by rw[ok.len];exact hi
 have hg:=Fk (f:=gn) (d:=0) hig;have hgn:gn (p.gs.getD i 0)=u64 (p.gs.getD i 0:Nat):=rfl;have aK:=Fo (f:=bQ) hi false;simp+decide-dsimp only[go_sem,d1,d2,d3,d4,d6,n2,n3,n1',ok.a,ok.g,ok.f,hi,hg,hgn,aK,IN,NH,reduceAdd];refine⟨i,hi,ht,rfl,⟨?_,?_,?_,?_,?_,n1,n2,n3,Lk l1,Lk l2,Lk l3⟩,?_⟩;.have:=count_set hi ht;rw[aj,ak d1,aj,aw rfl];simp only[eJ];rw[show(p.fr.set i false).count true=p.fr.count true-1 from ah]
 .rw[aj,ak d2,aj,ak n1',aj,ak n3,aj,ak d2];exact ok.g
 .rw[aj,ak d3,aj,ak RJ,aj,aw rfl]
 .show p.gs.length=_;simp[ok.len]
 .show(p.fr.set i false).length<=_;simpa using ok.small
 .intro b hb h1 h2 h3;rw[aj,ak ah,aj,ak h1,aj,ak h3,aj,ak ah]
variable{et kt:TypeId}{z:Value}
structure jE(α:Type)where
 ao:Nat
 bJ:Nat
 ahQ:Nat
 bk:Nat
 x:α
structure Ar(α:Type)where
 ab:Nat
 mb:Nat
 ck:Nat
 pb:Nat
 es:List (jE α)
def jE.row{α:Type}(e:jE α):AV×AV×Nat:=(int e.ao,.ptr e.bJ 0,e.ahQ)
structure Ar.ok{α:Type}(enc:α->List AV)(tA tC:TypeId)(a:Ar α)(h:aG)(nx:Nat):Prop where
 ar:au h a.ab=some (.cells [.ptr a.pb 0,.mp a.mb] tA)
 mp:au h a.mb=some (.map (a.es.map jE.row) a.ck)
 cl:∀e∈a.es,au h e.bJ=some (.cells (u64 e.bk::enc e.x) tC)
 rK:(a.es.map jE.ao).Nodup
 IL:(a.es.map jE.bJ).Nodup
 fr:∀e∈a.es,e.bJ≠a.ab/\e.bJ≠a.mb/\e.bJ<nx
 ne:¬(a.ab=a.mb)
 la:a.ab<nx
 lm:a.mb<nx
def DU(z:Value)(es:Option (List (AV×AV×Nat)))(k:AV)(ok:Bool):Option AV:=match es with
 |some es=>found z ok (iF (.int .i64) k es 0)
 |none=>none
theorem Ku{z es k ok}:DU z (some es) k ok=found z ok (iF (.int .i64) k es 0):=bF rfl
def U3(o:Option AO):Option (List (AV×AV×Nat)):=match o with
 |some (.map es _)=>some es
 |_=>none
theorem HP{h b}:mapOf h (.mp b)=U3 (au h b):=bF rfl
theorem sj{es c}:U3 (some (.map es c))=some es:=bF rfl
theorem EX{h a k ok}(hu:P.underlying t=some (.map kt et))(hk:P.underlying kt=some (.int .i64))(hz:mc P et=some z):my P h t a k ok=DU z (mapOf h a) k ok:=by unfold my DU;simp only[hu,hk,hz,nP,cz];cases mapOf h a<;>rfl
def Oj(h:aG)(b:Nat)(o:Option AO)(k v:AV):Option aG:=match o with
 |some (.map es clock)=>xC h b es clock k v (iF (.int .i64) k es 0)
 |_=>none
theorem MM{h b es c k v}:Oj h b (some (.map es c)) k v=xC h b es c k v (iF (.int .i64) k es 0):=bF rfl
theorem Jv{h b k v}(hu:P.underlying t=some (.map kt et))(hk:P.underlying kt=some (.int .i64)):qA P h t (.mp b) k v=Oj h b (au h b) k v:=by
 unfold qA Oj;simp only[hu,hk,nP,cz];cases au h b with
 |none=>rfl
 |some o=>cases o<;>rfl
theorem zX(k s:Nat):xp (.int .i64) (int k) (int s)=some (decide (k=s)):=by
 show Instr.sameNow (.int .i64) (.int .i64 k) (.int .i64 s)=_;simp only[Instr.sameNow,cz]
 congr 1
 by_cases e:k=s<;>simp[e];omega
theorem Eb{α:Type}{e:jE α}:∀(es:List (jE α)) (i:Nat),e∈es->(∀e'∈es,e'.ao=e.ao->e'.bJ=e.bJ)->∃j,iF (.int .i64) (int e.ao) (es.map jE.row) i=some (some (j,.ptr e.bJ 0))
 |[],_,h,_=>by cases h
 |f::es,i,h,hu=>by
  rw[dQ,iF];show∃j,(match xp (.int .i64) (int e.ao) (int f.ao)with|some true=>some (some (i,AV.ptr f.bJ 0))|some false=>iF (.int .i64) (int e.ao) (es.map jE.row) (i+1)|none=>none)=_;rw[zX];by_cases he:e.ao=f.ao;.simp only[he,qF];exact⟨i,by rw[hu f bL he.symm]⟩
  .simp only[he,oG];refine Eb es (i+1) ?_ λe' h'=>hu e' (by simp[h']);rcases bE.1 h with rfl|h
   .exact absurd rfl he
   .exact h
theorem vf{α:Type}{k:Nat}:∀(es:List (jE α)) (i:Nat),(∀e∈es,e.ao≠k)->iF (.int .i64) (int k) (es.map jE.row) i=some none
 |[],_,_=>rfl
 |f::es,i,hm=>by rw[dQ,iF];show(match xp (.int .i64) (int k) (int f.ao)with|some true=>some (some (i,AV.ptr f.bJ 0))|some false=>iF (.int .i64) (int k) (es.map jE.row) (i+1)|none=>none)=_;rw[zX];have:¬k=f.ao:=λh=>hm f bL h.symm;simp only[this,oG];exact vf es (i+1) λe h=>hm e (by simp[h])
theorem jw{α β:Type}{f:α->β}:∀{l:List α},(l.map f).Nodup->∀{a b:α},a∈l->b∈l->f a=f b->a=b
 |[],_,_,_,h,_,_=>by cases h
 |x::l,hn,a,b,ha,hb,e=>by
  rw[dQ,jG]at hn;rcases bE.1 ha with h1|ha<;>rcases bE.1 hb with h2|hb
  .rw[h1,h2]
  .exact absurd (bu.2 ⟨b,hb,by rw[<-e,h1]⟩) hn.1
  .exact absurd (bu.2 ⟨a,ha,by rw[e,h2]⟩) hn.1
  .exact jw hn.2 ha hb e
theorem AK{es:List (jE α)}(hn:(es.map jE.ao).Nodup){e:jE α}(he:e∈es):∃j,iF (.int .i64) (int e.ao) (es.map jE.row) 0=some (some (j,.ptr e.bJ 0)):=
 Eb es 0 he λ_ h' e'=>by rw[jw hn h' he e']
theorem aiO{h a k ok}:my prog h 287 a k ok=DU (.pointer none) (mapOf h a) k ok:=EX TZ Da abA
theorem ajn{h b k v}:qA prog h 287 (.mp b) k v=Oj h b (au h b) k v:=Jv TZ Da
theorem OT{z x ok}:found z ok (some (some x))=some (if ok then .dN [x.2,bQ true]else x.2):=bF rfl
theorem Ke{h b es c k v}:xC h b es c k v (some none)=some (aK h b (.map (es++[(k,v,c)]) (c+1))):=bF rfl
attribute[go_sem] OT Ke Ku HP sj MM aiO ajn
abbrev NAr.ok(a:Ar Nd)(h:aG)(nx:Nat):Prop:=Ar.ok Nd.cells 289 294 a h nx
def ajU:Nat->cU:=λid=>if id=3 then[(z9,[],some 10),([],[],some 11),([],[],none)]else if id=4 then[(z10,[],some 11),([],[],some 12),([],[],none)]else[]
theorem am8(a:Ar Nd)(h:aG)(nx:Nat)(ok:NAr.ok a h nx)(e:jE Nd)(he:e∈a.es):aA prog 247 [.ptr a.ab 0,(Hd.mk e.ao e.bk).av] h nx (dr (.dN [.ptr e.bJ 0,bQ true]) h nx):=by obtain⟨j,hj⟩:=AK ok.rK he;have hf:=ok.fr e he;have UG:=ok.la;have MQ:=ok.lm;refine aA.pc 2 ajU func247 ?_;have d1:¬(a.ab=nx):=ah;have d2:¬(a.mb=nx):=ah;have d3:¬(e.bJ=nx):=ah;simp+decide-dsimp only[f247,go_sem,ajU,Hd.av,Hd.cells,ok.ar,ok.mp,ok.cl e he,d1,d2,d3,hj];exact .of (aH.refl.set (an _)) (.cQ ⟨hf.2.2,trivial,trivial⟩)
theorem anv(a:Ar Nd)(h:aG)(nx:Nat)(ok:NAr.ok a h nx)(e:jE Nd)(he:e∈a.es):aA prog 236 [.ptr a.ab 0,(Hd.mk e.ao e.bk).av] h nx (dr (.dN [.ptr e.bJ 1,bQ true]) h nx):=by
 have hf:=ok.fr e he;refine aA.pc 2 T0 func236 ?_;have J':NAr.ok a (aK h nx (.cells (Hd.mk e.ao e.bk).cells 245)) (nx+1):=by
  have UG:=ok.la;have MQ:=ok.lm;refine⟨by rw[aj,ak ah];exact ok.ar,by rw[aj,ak ah];exact ok.mp,λf mj=>?_,ok.rK,ok.IL,λf mj=>?_,ok.ne,ah,ah⟩;.have:=ok.fr f mj;rw[aj,ak ah];exact ok.cl f mj
  .have:=ok.fr f mj;exact⟨this.1,this.2.1,ah⟩
 have c:=am8 a _ _ J' e he;rw[Hd.av,Hd.cells]at c;simp+decide-dsimp only[f236,go_sem,Hd.av,Hd.cells];refine cf c λ_ h' nx' _ ⟨e1,e2,e3⟩=>?_;subst e1;subst e2;subst e3;simp+decide-dsimp only[go_sem];exact .of (aH.refl.set (an _)) (.cQ ⟨hf.2.2,trivial,trivial⟩)
structure Sep{α:Type}(a:Ar α)(p:bj):Prop where
 pb:a.pb=p.pb
 sa:a.ab≠p.pb/\a.ab≠p.gb/\a.ab≠p.fb
 sm:a.mb≠p.pb/\a.mb≠p.gb/\a.mb≠p.fb
 sc:∀e∈a.es,e.bJ≠p.pb/\e.bJ≠p.gb/\e.bJ≠p.fb
 taken:∀e∈a.es,e.ao<p.fr.length/\p.fr.getD e.ao false=false
def QT{α:Type}(nx:Nat)(a:Ar α)(p:bj)(h h':aG):Prop:=∀b,b<nx->b≠p.pb->b≠p.gb->b≠p.fb->b≠a.mb->au h' b=au h b
theorem bj.ok.aX{p:bj}(o:p.ok h nx)(s:aH nx h h')(hn:nx<=nx'):p.ok h' nx':=
 ⟨by rw[s _ o.rY];exact o.a,by rw[s _ o.ss];exact o.g,by rw[s _ o.sr];exact o.f,o.len,o.small,o.ne1,o.ne2,o.ne3,aP o.rY hn,aP o.ss hn,aP o.sr hn⟩
theorem bj.ok.iy{p:bj}(o:p.ok h nx)(h1:au h' p.pb=au h p.pb)(h2:au h' p.gb=au h p.gb)(h3:au h' p.fb=au h p.fb)(hn:nx<=nx'):p.ok h' nx':=
 ⟨by rw[h1];exact o.a,by rw[h2];exact o.g,by rw[h3];exact o.f,o.len,o.small,o.ne1,o.ne2,o.ne3,aP o.rY hn,aP o.ss hn,aP o.sr hn⟩
def aj3:Nat->cU:=λid=>if id=6 then[(z10,[3,5,7,8],some 11),([],[],none)]else[]
theorem ak8(a:Ar Nd)(p:bj)(h:aG)(nx:Nat)(ok:NAr.ok a h nx)(sg:p.ok h nx)(sp:Sep a p)(hc:p.fr.count true≠0)(x:Nd):
 aA prog 129 [.ptr a.ab 0,.agg (Nd.cells x)] h nx λv h' nx'=>∃i bJ,i<p.fr.length/\p.fr.getD i false=true/\v= .dN [(Hd.mk i (p.gs.getD i 0)).av,int 0]/\
  ({p with fr:=p.fr.set i false}:bj).ok h' nx'/\NAr.ok {a with ck:=a.ck+1,es:=a.es++[⟨i,bJ,a.ck,p.gs.getD i 0,x⟩]} h' nx'/\nx<=bJ/\QT nx a p h h':=by
 have l1:=sg.rY;have l2:=sg.ss;have l3:=sg.sr;have UG:=ok.la;have MQ:=ok.lm;have s1:=sp.sa;have s2:=sp.sm;refine aA.ac 2 aj3 func129 ?_;have d1:¬(a.ab=nx):=ah;have d2:¬(a.ab=nx+1):=ah;simp+decide-dsimp only[f129,go_sem,ok.ar,sp.pb,d1,d2];refine cf (ac6 p _ _ (sg.aX (aH.set (aH.set .refl (an _)) (bz _)) ah) hc) λ_ h1 cm l4 ⟨i,hi,ht,e,q1,q2⟩=>?_;subst e;have k1:au h1 a.ab=some (.cells [.ptr p.pb 0,.mp a.mb] 289):=by rw[q2 _ ah s1.1 s1.2.1 s1.2.2,aj,ak d2,aj,ak d1,ok.ar,sp.pb]
 have k2:au h1 a.mb=some (.map (a.es.map jE.row) a.ck):=by rw[q2 _ ah s2.1 s2.2.1 s2.2.2,aj,ak ah,aj,ak ah,ok.mp]
 have k3:au h1 nx=some (.cells (Nd.cells x) 247):=by rw[q2 _ ah ah ah ah,aj,ak ah,aj,aw rfl]
 have k4:au h1 (nx+1)=some (.cells [int 0,u64 0] 245):=by rw[q2 _ ah ah ah ah,aj,aw rfl]
 have d3:¬(a.ab=cm):=ah;have d4:¬(a.mb=cm):=ah;have d5:¬(nx=cm):=ah;have d6:¬(nx+1=cm):=ah;have d7:¬(a.ab=cm+1+10):=ah;have d8:¬(a.mb=cm+1+10):=ah;have d9:¬(nx=cm+1+10):=ah;have d10:¬(nx+1=cm+1+10):=ah;have d11:¬(cm=a.mb):=ah;have d12:¬(nx+1=a.mb):=ah;have hm:=vf (k:=i) a.es 0 λe he hs=>by have:=(sp.taken e he).2;rw[hs,ht]at this;cases this
 simp+decide-dsimp only[go_sem,aj3,Hd.av,Hd.cells,k1,k2,k3,k4,d3,d4,d5,d6,d7,d8,d9,d10,d11,d12,hm,Nd.cells,reduceAdd];refine⟨i,cm+1+10,hi,ht,rfl,?_,?_,ah,?_⟩
 .refine q1.iy ?_ ?_ ?_ (by show cm<=cm+1+12;omega);.show au _ p.pb=au _ p.pb;have:=s2.1;rw[aj,ak ah,aj,ak (λe=>this e.symm),aj,ak ah,aj,ak ah,aj,ak ah]
  .show au _ p.gb=au _ p.gb;have:=s2.2.1;rw[aj,ak ah,aj,ak (λe=>this e.symm),aj,ak ah,aj,ak ah,aj,ak ah]
  .show au _ p.fb=au _ p.fb;have:=s2.2.2;rw[aj,ak ah,aj,ak (λe=>this e.symm),aj,ak ah,aj,ak ah,aj,ak ah]
 .have cx:=ok.ne;refine⟨?_,?_,λe he=>?_,?_,?_,λe he=>?_,ok.ne,?_,?_⟩;.show au _ a.ab=_;rw[aj,ak ah,aj,ak cx,aj,ak ah,aj,ak ah,aj,ak ah,k1]
  .show au _ a.mb=_;rw[aj,ak ah,aj,aw rfl,dB];rfl
  .rcases bp.1 he with he|he;.have:=ok.fr e he;have g:=sp.sc e he;rw[aj,ak ah,aj,ak this.2.1,aj,ak ah,aj,ak ah,aj,ak ah,q2 _ ah g.1 g.2.1 g.2.2,aj,ak ah,aj,ak ah];exact ok.cl e he
   .simp only[aR]at he;subst he;show au _ (cm+1+10)=_;rw[aj,ak ah,aj,ak ah,aj,aw rfl];rfl
  .show((a.es++[_]).map jE.ao).Nodup;rw[dB,nm];refine⟨ok.rK,bL,λy hy z hz=>?_⟩;obtain⟨e,he,rfl⟩:=bu.1 hy;simp only[dQ,oQ,aR]at hz;intro hs;have:=(sp.taken e he).2;rw[hs,hz,ht]at this;cases this
  .show((a.es++[_]).map jE.bJ).Nodup;rw[dB,nm];refine⟨ok.IL,bL,λy hy z hz=>?_⟩;obtain⟨e,he,rfl⟩:=bu.1 hy;simp only[dQ,oQ,aR]at hz;have:=ok.fr e he;omega
  .show e.bJ≠a.ab/\e.bJ≠a.mb/\e.bJ<cm+1+12;rcases bp.1 he with he|he
   .have:=ok.fr e he;exact⟨this.1,this.2.1,ah⟩
   .simp only[aR]at he;subst he;show cm+1+10≠a.ab/\cm+1+10≠a.mb/\cm+1+10<cm+1+12;omega
  .show a.ab<cm+1+12;omega
  .show a.mb<cm+1+12;omega
 .intro b hb g1 g2 g3 g4;rw[aj,ak ah,aj,ak g4,aj,ak ah,aj,ak ah,aj,ak ah,q2 b ah g1 g2 g3,aj,ak ah,aj,ak ah]
theorem jD:∀(a b:ba),a<b\/a=b\/b<a
 |[],[]=> .inr (.inl rfl)
 |[],_::_=> .inl bL
 |_::_,[]=> .inr (.inr bL)
 |a::x,b::y=>by
  simp only[du];have tri:a<b\/a=b\/b<a:=by
   rcases cI a.toNat b.toNat with h|h|h;.exact .inl (cW.2 h)
   .exact .inr (.inl (eA.1 h))
   .exact .inr (.inr (cW.2 h))
  rcases tri with h|h|h;.exact .inl (.inl h)
  .subst h;rcases jD x y with h|h|h
   .exact .inl (.inr ⟨rfl,h⟩)
   .exact .inr (.inl (by rw[h]))
   .exact .inr (.inr (.inr ⟨rfl,h⟩))
  .exact .inr (.inr (.inl h))
theorem dZ{a b c:ba}(h1:a<b)(h2:b<c):a<c:=List.lt_trans h1 h2
theorem cw{a:ba}:¬a<a:=List.lt_irrefl a
theorem NQ{a b c:ba}(h1:a<b)(h2:¬c<b):a<c:=by
 rcases jD b c with h|h|h;.exact dZ h1 h
 .subst h;exact h1
 .exact absurd h h2
theorem kG{a b c:ba}(h1:¬b<a)(h2:b<c):a<c:=by
 rcases jD a b with h|h|h;.exact dZ h h2
 .subst h;exact h2
 .exact absurd h h1
theorem ja{a b c:ba}(h1:¬b<a)(h2:¬c<b):¬c<a:=λh=>by
 rcases jD b c with h3|h3|h3;.exact h1 (dZ h3 h)
 .subst h3;exact h1 h
 .exact h2 h3
theorem kj{a:ba}:¬a<[]:=bL
abbrev LI:=Nat->Option (Nat×Nd)
def jd(lo:Nat->ba)(s:Nat)(n:Nd)(i:Nat):ba:=if i=0 then lo s else n.aJ.getD (i-1) []
def kK(n:Nd)(i:Nat):Bool:=if i<n.aJ.length then true else n.bd
def lO(n:Nd)(i:Nat):ba:=if i<n.aJ.length then n.aJ.getD i []else n.cR
structure BI(Pk:ba->Prop)(σ:LI)(aO:Hd)(lo:Nat->ba)(lv:Nat->Nat)(iJ:Nat->Prop):Prop where
 r:∀s g n,σ s=some (g,n)->n.R
 small:∀s g n,σ s=some (g,n)->n.aJ.length<=4\/(iJ s/\n.aJ.length=5)
 aE:∀s g n,σ s=some (g,n)->(n.aE=true↔lv s=0)
 cQ:∀s g n,σ s=some (g,n)->∀i,i<n.aJ.length->¬n.aJ.getD i []<lo s/\(n.aE=false->lo s<n.aJ.getD i [])
 tB:∀s g n,σ s=some (g,n)->n.bd=true->lo s<n.cR
 lQ:∀s g n,σ s=some (g,n)->n.aE=false->∀i,i<n.bU.length->∃m,σ (n.bU.getD i default).ao=some ((n.bU.getD i default).bk,m)/\lv (n.bU.getD i default).ao+1=lv s/\
  lo (n.bU.getD i default).ao=jd lo s n i/\m.bd=kK n i/\m.cR=lO n i
 next:∀s g n,σ s=some (g,n)->n.aE=true->n.bd=true->∃m,σ n.next.ao=some (n.next.bk,m)/\m.aE=true/\lo n.next.ao=n.cR
 uniq:∀s g n s' g' n',σ s=some (g,n)->σ s'=some (g',n')->lv s=lv s'->s≠s'->(n.bd=true/\¬lo s'<n.cR)\/(n'.bd=true/\¬lo s<n'.cR)
 rt:∃n,σ aO.ao=some (aO.bk,n)/\lo aO.ao=[]/\n.bd=false
 aJ:∀s g n,σ s=some (g,n)->n.aE=true->∀k∈n.aJ,Pk k
 top:∀s g n,σ s=some (g,n)->lv s<=lv aO.ao
def PG(lo:Nat->ba)(s:Nat)(n:Nd)(k:ba):Prop:=¬k<lo s/\n.dI k=true
theorem fZ{n:Nd}{k:ba}:n.dI k=true↔(n.bd=true->k<n.cR):=by unfold Nd.dI;cases n.bd<;>simp
theorem Nd.R.lt{n:Nd}(hR:n.R):∀{i j:Nat},i<j->j<n.aJ.length->n.aJ.getD i []<n.aJ.getD j []:=by
 intro i j CT hj
 induction j with
 |zero=>omega
 |succ j ih=>
  have h1:=hR.sorted j hj;rcases bg i j with h|h
  .exact dZ (ih h ah) h1
  .have:i=j:=ah;subst this;exact h1
theorem He{n:Nd}(hR:n.R){k:ba}(h:0<n.iU k):n.iU k-1<n.aJ.length/\¬k<n.aJ.getD (n.iU k-1) []:=by
 have hp:=iE n.aJ k;unfold Nd.iU at h⊢;cases hh:n.has k with
 |true=>
  have sM:place n.aJ k<n.aJ.length/\n.aJ.getD (place n.aJ k) []=k:=by unfold Nd.has at hh;simpa using hh
  simp only[cz,fv];exact⟨sM.1,by rw[sM.2];exact cw⟩
 |false=>rw[hh]at h;simp only[dk,cC,dD]at h⊢;exact⟨ah,cX (uI _ _ _ ah)⟩
theorem GO{n:Nd}(hR:n.R){k:ba}(h:n.iU k<n.aJ.length):k<n.aJ.getD (n.iU k) []:=by
 have hp:=iE n.aJ k;unfold Nd.iU at h⊢;cases hh:n.has k with
 |true=>
  have sM:place n.aJ k<n.aJ.length/\n.aJ.getD (place n.aJ k) []=k:=by unfold Nd.has at hh;simpa using hh
  rw[hh]at h;simp only[cz]at h⊢;have:=hR.sorted (place n.aJ k) h;rw[sM.2]at this;exact this
 |false=>
  rw[hh]at h;simp only[dk,cC,dD]at h⊢;have h1:=tU _ _ h;rcases jD k (n.aJ.getD (place n.aJ k) [])with h2|h2|h2
  .exact h2
  .unfold Nd.has at hh;rw[aM h,aM h2.symm]at hh;cases hh
  .exact absurd h2 h1
theorem BI.down{Pk σ aO lo lv iJ}(I:BI Pk σ aO lo lv iJ){s g:Nat}{n:Nd}(hs:σ s=some (g,n))(hl:n.aE=false){k:ba}(hc:PG lo s n k):
 ∃m,σ (n.bU.getD (n.iU k) default).ao=some ((n.bU.getD (n.iU k) default).bk,m)/\lv (n.bU.getD (n.iU k) default).ao+1=lv s/\PG lo (n.bU.getD (n.iU k) default).ao m k:=by
 have hR:=I.r _ _ _ hs;obtain⟨m,h1,h2,h3,h4,h5⟩:=I.lQ _ _ _ hs hl _ (hR.A3 hl k);refine⟨m,h1,h2,?_,?_⟩
 .rw[h3];unfold jd;split;.exact hc.1
  .exact(He hR ah).2
 .rw[fZ,h4,h5];unfold kK lO;split;.rename_i h;intro _;exact GO hR h
  .exact fZ.1 hc.2
def up{α:Type}(σ:Nat->Option (Nat×α))(s:Nat)(x:Nat×α):Nat->Option (Nat×α):=λt=>if t=s then some x else σ t
theorem cO{σ:Nat->Option (Nat×α)}{s x}:up σ s x s=some x:=aw rfl
theorem cH{σ:Nat->Option (Nat×α)}{s x t}(h:t≠s):up σ s x t=σ t:=ak h
theorem BI.upd{Pk σ aO lo lv iJ big'}(I:BI Pk σ aO lo lv iJ)(hb:∀s,¬iJ s){s g:Nat}{n n':Nd}(hs:σ s=some (g,n))(hl:n.aE=true)(e1:n'.aE=true)(e2:n'.bd=n.bd)(e3:n'.cR=n.cR)(e4:n'.next=n.next)
 (hR:n'.R) (tE:∀i,i<n'.aJ.length->¬n'.aJ.getD i []<lo s) (tW:n'.aJ.length<=4\/(big' s/\n'.aJ.length=5)) (hk:∀k∈n'.aJ,Pk k):BI Pk (up σ s (g,n')) aO lo lv big':=by
 have get:∀t g1 m,up σ s (g,n') t=some (g1,m)->(t=s/\g1=g/\m=n')\/(t≠s/\σ t=some (g1,m)):=by
  intro t g1 m h;by_cases ht:t=s;.subst ht;rw[cO]at h;injection h with h;injection h with h1 h2;exact .inl ⟨rfl,h1.symm,h2.symm⟩
  .rw[cH ht]at h;exact .inr ⟨ht,h⟩
 have put:∀t g1 m,σ t=some (g1,m)->∃m',up σ s (g,n') t=some (g1,m')/\m'.bd=m.bd/\m'.cR=m.cR/\m'.aE=m.aE:=by
  intro t g1 m h;by_cases ht:t=s
  .subst ht;rw[hs]at h;injection h with h;injection h with h1 h2;subst h1;subst h2
   exact⟨n',cO,e2,e3,by rw[e1,hl]⟩
  .exact⟨m,by rw[cH ht];exact h,rfl,rfl,rfl⟩
 refine⟨λt g1 m h=>?_,λt g1 m h=>?_,λt g1 m h=>?_,λt g1 m h=>?_,λt g1 m h hb=>?_,λt g1 m h jL i hi=>?_,λt g1 m h jL nT=>?_,λt g1 m t' g1' m' h h' zq cx=>?_,?_,λt g1 m h jL=>?_,λt g1 m h=>?_⟩
 .rcases get t g1 m h with⟨rfl,rfl,rfl⟩|⟨_,h⟩;.exact hR
  .exact I.r _ _ _ h
 .rcases get t g1 m h with⟨rfl,rfl,rfl⟩|⟨_,h⟩;.exact tW
  .rcases I.small _ _ _ h with h|h;.exact .inl h
   .exact absurd h.1 (hb t)
 .rcases get t g1 m h with⟨rfl,rfl,rfl⟩|⟨_,h⟩;.exact⟨λ_=>(I.aE _ _ _ hs).1 hl,λ_=>e1⟩
  .exact I.aE _ _ _ h
 .rcases get t g1 m h with⟨rfl,rfl,rfl⟩|⟨_,h⟩;.exact λi hi=>⟨tE i hi,λh=>by rw[e1]at h;cases h⟩
  .exact I.cQ _ _ _ h
 .rcases get t g1 m h with⟨rfl,rfl,rfl⟩|⟨_,h⟩;.rw[e3];exact I.tB _ _ _ hs (by rw[<-e2];exact hb)
  .exact I.tB _ _ _ h hb
 .rcases get t g1 m h with⟨rfl,rfl,rfl⟩|⟨_,h⟩;.rw[e1]at jL;cases jL
  .obtain⟨m',h1,h2,h3,h4,h5⟩:=I.lQ _ _ _ h jL i hi;obtain⟨m2,q1,q2,q3,_⟩:=put _ _ _ h1;exact⟨m2,q1,h2,h3,by rw[q2,h4],by rw[q3,h5]⟩
 .rcases get t g1 m h with⟨rfl,rfl,rfl⟩|⟨_,h⟩;.obtain⟨m',h1,h2,h3⟩:=I.next _ _ _ hs hl (by rw[<-e2];exact nT);obtain⟨m2,q1,_,_,q4⟩:=put _ _ _ h1;rw[e4,e3];exact⟨m2,q1,by rw[q4,h2],h3⟩
  .obtain⟨m',h1,h2,h3⟩:=I.next _ _ _ h jL nT;obtain⟨m2,q1,_,_,q4⟩:=put _ _ _ h1;exact⟨m2,q1,by rw[q4,h2],h3⟩
 .rcases get t g1 m h with⟨a1,a2,a3⟩|⟨_,a⟩<;>rcases get t' g1' m' h' with⟨b1,b2,b3⟩|⟨_,b⟩;.exact absurd (a1.trans b1.symm) cx
  .subst a1;subst a3;rw[e2,e3];exact I.uniq _ _ _ _ _ _ hs b zq cx
  .subst b1;subst b3;rw[e2,e3];exact I.uniq _ _ _ _ _ _ a hs zq cx
  .exact I.uniq _ _ _ _ _ _ a b zq cx
 .obtain⟨m,h1,h2,h3⟩:=I.rt;obtain⟨m2,q1,q2,_,_⟩:=put _ _ _ h1;exact⟨m2,q1,h2,by rw[q2,h3]⟩
 .rcases get t g1 m h with⟨rfl,rfl,rfl⟩|⟨_,h⟩;.exact hk
  .exact I.aJ _ _ _ h jL
 .rcases get t g1 m h with⟨rfl,rfl,rfl⟩|⟨_,h⟩;.exact I.top _ _ _ hs
  .exact I.top _ _ _ h
variable{j:Nat}
theorem ig{l:List α}{m:Nat}{d:α}(h:i<m):(l.take m).getD i d=l.getD i d:=by simp only[List.getD,gK h]
theorem oz{l:List α}{m:Nat}{d:α}:(l.drop m).getD i d=l.getD (m+i) d:=by simp only[List.getD,gV]
theorem lC{l:List α}{x:α}(h:i<=l.length):(ins l i x).length=l.length+1:=by unfold ins;simp;omega
theorem me{l:List α}{x d:α}(h:j<i)(hi:i<=l.length):(ins l i x).getD j d=l.getD j d:=by unfold ins;simp only[List.getD];rw[cj fE,gK h]
theorem mF{l:List α}{x d:α}(hi:i<=l.length):(ins l i x).getD i d=x:=by unfold ins;simp only[List.getD];rw[dh fE];have:i-(l.take i).length=0:=fE;rw[this];rfl
theorem kH{l:List α}{x d:α}(h:i<j)(hi:i<=l.length):(ins l i x).getD j d=l.getD (j-1) d:=by
 unfold ins;simp only[List.getD];rw[dh fE];have:j-(l.take i).length=(j-1-i)+1:=fE;rw[this,zd,gV]
 congr 2;omega
theorem AQ:∀(l:List ba) (k:ba) (i:Nat),i<=l.length->(∀j,j<i->l.getD j []<k)->(i<l.length->¬l.getD i []<k)->place l k=i
 |[],k,i,hi,_,_=>by simp at hi;subst hi;rfl
 |x::l,k,i,hi,h1,h2=>by
  unfold place;rw[lP];cases i with
  |zero=>have:=h2 bL;simp at this;simp[this]
  |succ i=>
   have hx:x<k:=by simpa using h1 0 ah
   simp only[hx,qF,cz,bD];have:=AQ l k i (by simpa using hi) (λj hj=>by simpa using h1 (j+1) ah) (λh=>by simpa using h2 (by simpa using h));unfold place at this;omega
section
variable{n:Nd}(hR:n.R)(h5:n.aJ.length=5){x:Hd}
include hR h5
theorem oj:n.lY=2:=by unfold Nd.lY;rw[h5]
theorem FI:n.sep=n.aJ.getD 2 []:=by unfold Nd.sep;rw[oj hR h5]
theorem ij:(n.left x).aJ=n.aJ.take 2:=by show n.aJ.take n.lY=_;rw[oj hR h5]
theorem qL:n.right.aJ=n.aJ.drop (if n.aE then 2 else 3):=by show n.aJ.drop (if n.aE then n.lY else n.lY+1)=_;rw[oj hR h5]
theorem Nd.R.left:(n.left x).R:=by
 have hk:=ij hR h5 (x:=x);have bP:(n.left x).aJ.length=2:=by rw[hk,ax,h5];rfl
 refine⟨λi hi=>?_,λi hi=>?_,(λh=>by cases h),λh=>?_,λh=>?_,by rw[bP];omega⟩;.rw[bP]at hi;rw[hk,ig ah,ig ah];exact hR.sorted i ah
 .rw[bP]at hi;rw[hk,ig ah];show(!true||decide (n.aJ.getD i []<n.sep))=true;rw[FI hR h5];simpa using hR.lt (show i<2 from ah) ah
 .have h:n.aE=true:=h;obtain⟨e1,e2⟩:=hR.lf h;refine⟨?_,?_⟩;.rw[bP];show(if n.aE then n.fQ.take n.lY else n.fQ).length=2;rw[h,aw rfl,oj hR h5,ax,e1,h5];rfl
  .show(if n.aE then n.bU else n.bU.take (n.lY+1))=[];rw[h,aw rfl,e2]
 .have h:n.aE=false:=h;obtain⟨e1,e2⟩:=hR.nd h;refine⟨?_,?_⟩;.show(if n.aE then n.fQ.take n.lY else n.fQ)=[];rw[h,e1];rfl
  .rw[bP];show(if n.aE then n.bU else n.bU.take (n.lY+1)).length=3;rw[h,ak bL,oj hR h5,ax,e2,h5];rfl
theorem mP:n.right.aJ.getD i []=n.aJ.getD ((if n.aE then 2 else 3)+i) []:=by rw[qL hR h5,oz]
theorem vh:n.right.aJ.length=5-(if n.aE then 2 else 3):=by rw[qL hR h5,aC,h5]
theorem Nd.R.right:n.right.R:=by
 have bP:=vh hR h5;have hd:(if n.aE=true then 2 else 3)<=3:=by split<;>omega
 refine⟨λi hi=>?_,λi hi=>?_,hR.hi,λh=>?_,λh=>?_,by rw[bP];omega⟩;.rw[mP hR h5,mP hR h5];exact hR.lt ah (by rw[h5];omega)
 .rw[mP hR h5];exact hR.wk _ (by rw[h5];omega)
 .have h:n.aE=true:=h;obtain⟨e1,e2⟩:=hR.lf h;refine⟨?_,?_⟩;.rw[bP,h];show(if n.aE then n.fQ.drop n.lY else n.fQ).length=_;rw[h,aw rfl,oj hR h5,aC,e1,h5];rfl
  .show(if n.aE then n.bU else n.bU.drop (n.lY+1))=[];rw[h,aw rfl,e2]
 .have h:n.aE=false:=h;obtain⟨e1,e2⟩:=hR.nd h;refine⟨?_,?_⟩;.show(if n.aE then n.fQ.drop n.lY else n.fQ)=[];rw[h,e1];rfl
  .rw[bP,h];show(if n.aE then n.bU else n.bU.drop (n.lY+1)).length=_;rw[h,ak bL,oj hR h5,aC,e2,h5];rfl
end
theorem Nd.R.add{n:Nd}(hR:n.R)(hl:n.aE=false)(bP:n.aJ.length<=4){k:ba}(hc:n.dI k=true)(hh:n.has k=false)(x:Hd):(n.add k x).R:=by
 obtain⟨e1,e2⟩:=hR.nd hl;have hp:=iE n.aJ k;have oh:(n.add k x).aJ.length=n.aJ.length+1:=lC hp;have hgt:place n.aJ k<n.aJ.length->k<n.aJ.getD (place n.aJ k) []:=λh=>by
  have:=tU n.aJ k h;rcases jD k (n.aJ.getD (place n.aJ k) [])with q|q|q
  .exact q
  .unfold Nd.has at hh;rw[aM h,aM q.symm]at hh;cases hh
  .exact absurd q this
 refine⟨λi hi=>?_,λi hi=>?_,hR.hi,(λh=>by rw[show(n.add k x).aE=n.aE from rfl,hl]at h;cases h),λ_=>⟨e1,?_⟩,by rw[oh];omega⟩
 .rw[oh]at hi;show(ins n.aJ _ k).getD i []<(ins n.aJ _ k).getD (i+1) [];rcases cI (i+1) (place n.aJ k)with h|h|h
  .rw[me ah hp,me h hp];exact hR.sorted i ah
  .rw[me ah hp,<-h,mF ah];exact uI _ _ _ ah
  .rcases bg (place n.aJ k) i with h'|h';.rw[kH h' hp,kH ah hp];have:=hR.sorted (i-1) ah;rw[show i-1+1=i from ah]at this;exact this
   .have:i=place n.aJ k:=ah;rw[this,mF hp,kH ah hp,fv];exact hgt ah
 .rw[oh]at hi;show(!n.bd||decide ((ins n.aJ _ k).getD i []<n.cR))=true;rcases cI i (place n.aJ k)with h|h|h
  .rw[me h hp];exact hR.wk i ah
  .rw[h,mF hp];exact hc
  .rw[kH h hp];exact hR.wk _ ah
 .show(ins n.bU _ x).length=_;rw[lC ah,oh,e2]
end
end bC
end Go.Proofs.YtonnifoeokagjaaGreat
