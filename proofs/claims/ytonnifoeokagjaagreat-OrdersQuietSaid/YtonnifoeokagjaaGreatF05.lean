/- The theorem quiet_holds of OrdersQuiet: part 5 of its proof; no conditions. -/
import Derived.Test.YtonnifoeokagjaaGreatF04
import Derived.Lib.Bytealg
namespace Go.Proofs.YtonnifoeokagjaaGreat
set_option linter.all false
set_option maxRecDepth 8000
open Go Go.RowKit
open Option renaming some->J,none->B
open Bool renaming true->M,false->R
open List renaming length->O
namespace br
noncomputable section
variable{o:Oper}
section
universe AV
variable{P:Program}{xt:FuncId->Option Ext}
def bQ{α:Sort AV}{a b:α}(h:a=b):a=b:=Eq.trans h Z
inductive Kp{α:Sort AV}(a:α):Type
 |mk:Kp a
def DE(c:u)(hc zyQ:Prop)(_:Kp hc)(_:Kp zyQ):Prop:=∃t,c= .g (.bool t)/\(if t=M then hc else zyQ)
def asj{hc zyQ:Prop}{a b}:DE (.g (.bool M)) hc zyQ a b=hc:=by simp[DE]
def asi{hc zyQ:Prop}{a b}:DE (.g (.bool R)) hc zyQ a b=zyQ:=by simp[DE]
def tp(r:Option Bool)(hc zyQ:Prop)(_:Kp hc)(_:Kp zyQ):Prop:=match r with|some M=>hc|some R=>zyQ|none=>False
def asy{hc zyQ:Prop}{a b}:tp (J M) hc zyQ a b=hc:=bQ Z
def asx{hc zyQ:Prop}{a b}:tp (J R) hc zyQ a b=zyQ:=bQ Z
def F4(r:Bool)(hc zyQ:Prop)(_:Kp hc)(_:Kp zyQ):Prop:=if r=M then hc else zyQ
def asb{hc zyQ:Prop}{a b}:F4 M hc zyQ a b=hc:=bQ Z
def asa{hc zyQ:Prop}{a b}:F4 R hc zyQ a b=zyQ:=bQ Z
structure St where
 o:Oper
 hl:BT u->aE->Nat->Prop
 s:BT u
 h:aE
 Y:Nat
def QW(r:Option QR)(x:St)(_:Kp x):Prop:=WQ x.o x.hl x.s x.h x.Y r
def EW(P:Program)(r:Option ER)(x:St)(_:Kp x):Prop:=WC P x.o x.hl x.s x.h x.Y r
def Dw(P:Program)(f:FuncId)(args:List u)(h:aE)(Y:Nat)(hl:u->aE->Nat->Prop)(_:Kp hl):Prop:=az P f args h Y hl
def amZ{T nx' s h Y}:h1 P xt T .ret nx' s h Y=nx' .ret s h Y:=bQ Z
def ahy{T nx' s h Y}:h1 P xt T .skip nx' s h Y=nx' .jg s h Y:=bQ Z
def ah5{T a b nx' s h Y}:h1 P xt T (.seq a b) nx' s h Y=h1 P xt T a (jT.seq (h1 P xt T b nx') nx') s h Y:=bQ Z
def ahJ{T c a b nx' s h Y}:h1 P xt T (.cond c a b) nx' s h Y=DE (qw s c) (h1 P xt T a nx' s h Y) (h1 P xt T b nx' s h Y) .mk .mk:=bQ Z
def acP{T id b nx' s h Y}:h1 P xt T (.block id b) nx' s h Y=h1 P xt T b (jT.bT id nx') s h Y:=bQ Z
def ahQ{T id nx' s h Y}:h1 P xt T (.exit id) nx' s h Y=nx' (.out id) s h Y:=bQ Z
def Ur{T id ops nx' s h Y}:h1 P xt T (.region id ops R) nx' s h Y=xK P xt ops (nx' .jg) ops.toList s h Y:=bQ Z
def abD{T id ops nx' s h Y}:h1 P xt T (.region id ops M) nx' s h Y=FL P xt ops Y (nx' .jg) (T id) s h (Y+ops.size):=bQ Z
def UW{ops hl s h Y}:xK P xt ops hl [] s h Y=hl s h Y:=bQ Z
def RO{ops hl o l s h Y}:xK P xt ops hl (o::l) s h Y=tp (eM ops s o) (Wop P xt o (xK P xt ops hl l) s h Y) (xK P xt ops hl l (iz o.dst s (.g undef)) h Y) .mk .mk:=by
 simp only[xK,tp];exact auY
def abV{o hl s h Y}:Wop P xt o hl s h Y=F4 (cH o.op) (EW P (pg P xt h (qw s) o) ⟨o,hl,s,h,Y⟩ .mk) (QW (en P h (qw s) o) ⟨o,hl,s,h,Y⟩ .mk) .mk .mk:=bQ Z
def aeX{d op ty po af g hl s h Y v k}:QW (J (.val v)) ⟨⟨d,op,ty,po,af,g⟩,hl,s,h,Y⟩ k=hl (iz d s v) h Y:=bQ Z
def ZX{d op ty po af g hl s h Y ob k}:QW (J (.wF ob)) ⟨⟨d,op,ty,po,af,g⟩,hl,s,h,Y⟩ k=hl (iz d s (.ptr Y 0)) (aI h Y ob) (Y+1):=bQ Z
def adu{d op ty po af g hl s h Y ob len cap k}:QW (J (.ri ob len cap)) ⟨⟨d,op,ty,po,af,g⟩,hl,s,h,Y⟩ k=hl (iz d s (.sl Y 0 len cap)) (aI h Y ob) (Y+1):=bQ Z
def aaj{d op ty po af g hl s h Y ob k}:QW (J (.AT ob)) ⟨⟨d,op,ty,po,af,g⟩,hl,s,h,Y⟩ k=hl (iz d s (.mp Y)) (aI h Y ob) (Y+1):=bQ Z
def af1{d op ty po af g hl s h Y v Q k}:EW P (J (.val v Q)) ⟨⟨d,op,ty,po,af,g⟩,hl,s,h,Y⟩ k=hl (iz d s v) Q Y:=bQ Z
def N6(len es n:Nat)(h2:Nat->List Value->Prop)(_:Kp h2):Prop:=∀(cap:Nat) (gs:List Value),len<=cap->n+O gs=cap*es->h2 cap gs
def HK{d op ty po af g hl s h Y cs e es len Q k}:EW P (J (.rf (.fM cs e es) len Q)) ⟨⟨J d,op,ty,po,af,g⟩,hl,s,h,Y⟩ k=N6 len es (O cs) (λcap gs=>hl (sset s d (.sl Y 0 len cap)) (aI Q Y (.cells (cs++gs.map .g) e)) (Y+1)) .mk:=bQ Z
def ass{d op ty po af g hl s h Y f args k}:EW P (J (.enter f args)) ⟨⟨d,op,ty,po,af,g⟩,hl,s,h,Y⟩ k=Dw P f args h Y (λv Q E=>hl (iz d s v) Q E) .mk:=bQ Z
def OpW(r:Option Oper)(h2:Oper->Prop)(_:Kp h2):Prop:=match r with|some o=>h2 o|none=>False
def asz{h2:Oper->Prop}{k}:OpW (J o) h2 k=h2 o:=bQ Z
def Ff(hc zyQ:Prop)(_:Kp zyQ):Prop:=hc/\zyQ
def aev{zyQ:Prop}{k}:Ff True zyQ k=zyQ:=by simp[Ff]
structure Sq where
 ops:Array Oper
 base:Nat
 i:Nat
 o:Oper
 hl:BT u->aE->Prop
 l:List Nat
 s:BT u
 h:aE
def QN(P:Program)(r:Option QR)(x:Sq)(_:Kp x):Prop:=match r with
 |some q=>tB P x.ops x.base x.hl x.l (iz x.o.dst x.s (q.av (x.base+x.i))) (match q.obj with|some ob=>aI x.h (x.base+x.i) ob|none=>x.h)
 |none=>False
def af4{ops base i d op ty po af g hl l s h v k}:QN P (J (.val v)) ⟨ops,base,i,⟨d,op,ty,po,af,g⟩,hl,l,s,h⟩ k=tB P ops base hl l (iz d s v) h:=bQ Z
def ZV{ops base i d op ty po af g hl l s h ob k}:QN P (J (.wF ob)) ⟨ops,base,i,⟨d,op,ty,po,af,g⟩,hl,l,s,h⟩ k=tB P ops base hl l (iz d s (.ptr (base+i) 0)) (aI h (base+i) ob):=bQ Z
def ab7{ops base i d op ty po af g hl l s h ob len cap k}:QN P (J (.ri ob len cap)) ⟨ops,base,i,⟨d,op,ty,po,af,g⟩,hl,l,s,h⟩ k=tB P ops base hl l (iz d s (.sl (base+i) 0 len cap)) (aI h (base+i) ob):=bQ Z
def aa3{ops base i d op ty po af g hl l s h ob k}:QN P (J (.AT ob)) ⟨ops,base,i,⟨d,op,ty,po,af,g⟩,hl,l,s,h⟩ k=tB P ops base hl l (iz d s (.mp (base+i))) (aI h (base+i) ob):=bQ Z
def asq{ops base hl s h}:tB P ops base hl [] s h=hl s h:=bQ Z
def aso{ops base hl i l s h}:tB P ops base hl (i::l) s h=OpW ops[i]? (λo=>tp (eM ops s o) (QN P (en P h (qw s) o) ⟨ops,base,i,o,hl,l,s,h⟩ .mk) (tB P ops base hl l (iz o.dst s (.g undef)) h) .mk .mk) .mk:=by
 simp only[tB,OpW,tp,QN];cases ops[i]? with
 |none=>rfl
 |some o=>
  dsimp only;exact auY
def asr{ops base hl new chk rest s h Y}:FL P xt ops base hl ((new,chk,B)::rest) s h Y=tB P ops base (λs h=>Ff (Hp P ops base s h chk) (hl s h Y) .mk) new s h:=bQ Z
def aaQ{ops base hl new chk e rest s h Y}:FL P xt ops base hl ((new,chk,J e)::rest) s h Y=tB P ops base (λs h=>Ff (Hp P ops base s h chk) (OpW ops[e]? (λo=>tp (eM ops s o) (EW P (pg P xt h (qw s) o) ⟨o,FL P xt ops base hl rest,s,h,Y⟩ .mk) (FL P xt ops base hl rest (iz o.dst s (.g undef)) h Y) .mk .mk) .mk) .mk) new s h:=by
 simp only[FL]
 congr 1
 funext s h
 simp only[Ff,OpW,tp,EW]
 congr 1
 cases ops[e]? with
 |none=>rfl
 |some o=>
  dsimp only;exact auY
def asn{ops base s h}:Hp P ops base s h []=True:=bQ Z
def asm{ops base s h i l}:Hp P ops base s h (i::l)=((match ops[i]? with|none=>False|some o=>vr P ops base i o s h)/\Hp P ops base s h l):=bQ Z
@[congr] theorem aet{c c':u}{hc zyQ:Prop}{a b}(h:c=c'):DE c hc zyQ a b=DE c' hc zyQ a b:=by rw[h]
@[congr] theorem acQ{c c':Option Bool}{hc zyQ:Prop}{a b}(h:c=c'):tp c hc zyQ a b=tp c' hc zyQ a b:=by rw[h]
@[congr] theorem aep{c c':Bool}{hc zyQ:Prop}{a b}(h:c=c'):F4 c hc zyQ a b=F4 c' hc zyQ a b:=by rw[h]
@[congr] theorem aiF{r r':Option QR}{x k}(h:r=r'):QW r x k=QW r' x k:=by rw[h]
@[congr] theorem ald{r r':Option ER}{x k}(h:r=r'):EW P r x k=EW P r' x k:=by rw[h]
@[congr] theorem adY{f:FuncId}{args args':List u}{h:aE}{Y:Nat}{hl k}(e:args=args'):Dw P f args h Y hl k=Dw P f args' h Y hl k:=by rw[e]
@[congr] theorem ahY{r r':Option Oper}{h2 k}(h:r=r'):OpW r h2 k=OpW r' h2 k:=by rw[h]
@[congr] theorem aeU{hc A' zyQ:Prop}{k}(h:hc=A'):Ff hc zyQ k=Ff A' zyQ k:=by rw[h]
@[congr] theorem alu{r r':Option QR}{x k}(h:r=r'):QN P r x k=QN P r' x k:=by rw[h]
@[congr] theorem aeB{len es n n':Nat}{h2 k}(h:n=n'):N6 len es n h2 k=N6 len es n' h2 k:=by rw[h]
end
variable{op:BinOp}
section
variable{P:Program}
def cg(l:List UInt8):u:= .g (.string ⟨l.toArray⟩)
abbrev int(n:Int):u:= .g (.int .i64 n)
abbrev bW(b:Bool):u:= .g (.bool b)
def Lj:∀(x y:List UInt8),Op.bytesLess x y=decide (x<y)
 |[],[]=>by simp[Op.bytesLess]
 |_::_,[]=>by simp[Op.bytesLess]
 |[],_::_=>by simp[Op.bytesLess]
 |a::x,b::y=>by rw[Op.bytesLess,Lj x y];simp only[ef];by_cases W:a<b<;>by_cases F:a=b<;>by_cases h3:x<y<;>simp[W,F,h3]
def xJ(a b:List UInt8):Int:=if a<b then -1 else if b<a then 1 else 0
def vg:∀(a b:List UInt8),Lib.compareBytes a b=xJ a b
 |[],[]=>by simp[Lib.compareBytes,xJ]
 |[],_::_=>by simp[Lib.compareBytes,xJ]
 |_::_,[]=>by simp[Lib.compareBytes,xJ]
 |a::x,b::y=>by
  unfold Lib.compareBytes;rw[vg x y];unfold xJ;simp only[ef];have tri:a<b\/a=b\/b<a:=by
   exact auZ
  obtain h|h|h:=tri;.simp[h]
  .subst h;simp
  .have Q:¬a<b:=UInt8.lt_asymm h;have F:a≠b:=λe=>X' b (by rw[e]at h;exact h);simp[h,Q,F]
def Yu(a b:List UInt8):goInt (Extern.BytealgCompare.cmp ⟨a.toArray⟩ ⟨b.toArray⟩)= .int .i64 (xJ a b):=by rw[Lib.cmp_eq,<-vg];rfl
def jK(l:List UInt8):(ByteArray.mk l.toArray).toList=l:=by rw[ByteArray.toList_eq]
def XL{h t x y}{a b:ByteArray}:dE P h op t x y (.g (.string a)) (.g (.string b))=lH P op t x y (.string a) (.string b):=by unfold dE;simp only[eX,jm,u.pV]
def PU{t x y}{a b:ByteArray}:lH P op t x y (.string a) (.string b)=match bM P (Op.stringOp op a b)with|some r=>J (.g r)|none=>B:=by cases op<;>rfl
def rV{h t x y}{a b:List UInt8}{v}(hr:bM P (Op.stringOp op ⟨a.toArray⟩ ⟨b.toArray⟩)=J v):dE P h op t x y (cg a) (cg b)=J (.g v):=by unfold cg;rw[XL,PU,hr]
section
variable{h:aE}{t:TypeId}{x y:Operand}{a b:List UInt8}
def YK:dE P h .eql t x y (cg a) (cg b)=J (bW (decide (a=b))):=by refine rV (v:= .bool (decide (a=b))) ?_;show J (Value.bool (_==_))=_;rw[jK,jK];congr 2;by_cases hh:a=b<;>simp[hh]
def abS:dE P h .neq t x y (cg a) (cg b)=J (bW (!decide (a=b))):=by refine rV (v:= .bool (!decide (a=b))) ?_;show J (Value.bool (!(_==_)))=_;rw[jK,jK];congr 3;by_cases hh:a=b<;>simp[hh]
def ac':dE P h .geq t x y (cg a) (cg b)=J (bW (!decide (a<b))):=by refine rV (v:= .bool (!decide (a<b))) ?_;show J (Value.bool (!(Op.bytesLess _ _)))=_;rw[jK,jK,Lj]
def aaT:dE P h .gtr t x y (cg a) (cg b)=J (bW (!(decide (a<b)||decide (a=b)))):=by refine rV (v:= .bool (!(decide (a<b)||decide (a=b)))) ?_;show J (Value.bool (!(Op.bytesLess _ _||_==_)))=_;rw[jK,jK,Lj];congr 4;by_cases hh:a=b<;>simp[hh]
def kG(K:O a+O b<2^62):dE P h .add t x y (cg a) (cg b)=J (cg (a++b)):=by
 refine rV (v:= .string ⟨(a++b).toArray⟩) ?_;show bM P (if((_+_:Nat):Int)>IntKind.i64.max then _ else _)=_;rw[ak (by show¬(((a.toArray.size+b.toArray.size:Nat):Int)>9223372036854775807);simp;omega)];show J (Value.string _)=_
 congr 2
end
end
end
end br
end Go.Proofs.YtonnifoeokagjaaGreat
