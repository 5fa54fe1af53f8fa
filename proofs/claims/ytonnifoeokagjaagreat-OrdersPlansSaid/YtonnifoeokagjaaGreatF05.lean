/- The theorem plans_holds of OrdersPlans: part 5 of its proof; no conditions. -/
import Derived.Test.YtonnifoeokagjaaGreatF04
import Derived.Lib.Bytealg
namespace Go.Proofs.YtonnifoeokagjaaGreat
set_option linter.all false
set_option maxRecDepth 8000
open Go Go.RowKit
namespace bC
noncomputable section
variable{o:Oper}
section
universe u
variable{P:Program}{xt:FuncId->Option Ext}
theorem bF{α:Sort u}{a b:α}(h:a=b):a=b:=Eq.trans h rfl
inductive Kp{α:Sort u}(a:α):Type
 |mk:Kp a
def Cn(c:AV)(A B:Prop)(_:Kp A)(_:Kp B):Prop:=∃t,c= .g (.bool t)/\(if t=true then A else B)
theorem KO{A B:Prop}{a b}:Cn (.g (.bool true)) A B a b=A:=by simp[Cn]
theorem H8{A B:Prop}{a b}:Cn (.g (.bool false)) A B a b=B:=by simp[Cn]
def rE(r:Option Bool)(A B:Prop)(_:Kp A)(_:Kp B):Prop:=match r with|some true=>A|some false=>B|none=>False
theorem GW{A B:Prop}{a b}:rE (some true) A B a b=A:=bF rfl
theorem Er{A B:Prop}{a b}:rE (some false) A B a b=B:=bF rfl
def DD(r:Bool)(A B:Prop)(_:Kp A)(_:Kp B):Prop:=if r=true then A else B
theorem Jf{A B:Prop}{a b}:DD true A B a b=A:=bF rfl
theorem G7{A B:Prop}{a b}:DD false A B a b=B:=bF rfl
structure St where
 o:Oper
 K:BT AV->aG->Nat->Prop
 s:BT AV
 h:aG
 nx:Nat
def QW(r:Option QR)(x:St)(_:Kp x):Prop:=WQ x.o x.K x.s x.h x.nx r
def EW(P:Program)(r:Option ER)(x:St)(_:Kp x):Prop:=WC P x.o x.K x.s x.h x.nx r
def Bu(P:Program)(f:FuncId)(args:List AV)(h:aG)(nx:Nat)(K:AV->aG->Nat->Prop)(_:Kp K):Prop:=aA P f args h nx K
theorem ahM{T E s h nx}:W P xt T .ret E s h nx=E .ret s h nx:=bF rfl
theorem ab9{T E s h nx}:W P xt T .skip E s h nx=E .iA s h nx:=bF rfl
theorem agw{T a b E s h nx}:W P xt T (.seq a b) E s h nx=W P xt T a (jm.seq (W P xt T b E) E) s h nx:=bF rfl
theorem abX{T c a b E s h nx}:W P xt T (.cond c a b) E s h nx=Cn (oZ s c) (W P xt T a E s h nx) (W P xt T b E s h nx) .mk .mk:=bF rfl
theorem WV{T id b E s h nx}:W P xt T (.block id b) E s h nx=W P xt T b (jm.bJ id E) s h nx:=bF rfl
theorem aeo{T id E s h nx}:W P xt T (.exit id) E s h nx=E (.out id) s h nx:=bF rfl
theorem Un{T id ops E s h nx}:W P xt T (.region id ops false) E s h nx=vu P xt ops (E .iA) ops.toList s h nx:=bF rfl
theorem aae{T id ops E s h nx}:W P xt T (.region id ops true) E s h nx=Du P xt ops nx (E .iA) (T id) s h (nx+ops.size):=bF rfl
theorem Sk{ops K s h nx}:vu P xt ops K [] s h nx=K s h nx:=bF rfl
theorem OK{ops K o l s h nx}:vu P xt ops K (o::l) s h nx=rE (dO ops s o) (Wop P xt o (vu P xt ops K l) s h nx) (vu P xt ops K l (fT o.dst s (.g undef)) h nx) .mk .mk:=by
 simp only[vu,rE];cases dO ops s o with
 |none=>rfl
 |some b=>cases b<;>rfl
theorem U1{o K s h nx}:Wop P xt o K s h nx=DD (ct o.op) (EW P (nE P xt h (oZ s) o) ⟨o,K,s,h,nx⟩ .mk) (QW (dE P h (oZ s) o) ⟨o,K,s,h,nx⟩ .mk) .mk .mk:=bF rfl
theorem adO{d op ty po af g K s h nx v k}:QW (some (.val v)) ⟨⟨d,op,ty,po,af,g⟩,K,s,h,nx⟩ k=K (fT d s v) h nx:=bF rfl
theorem VY{d op ty po af g K s h nx ob k}:QW (some (.xa ob)) ⟨⟨d,op,ty,po,af,g⟩,K,s,h,nx⟩ k=K (fT d s (.ptr nx 0)) (aK h nx ob) (nx+1):=bF rfl
theorem XG{d op ty po af g K s h nx ob len cap k}:QW (some (.pS ob len cap)) ⟨⟨d,op,ty,po,af,g⟩,K,s,h,nx⟩ k=K (fT d s (.sl nx 0 len cap)) (aK h nx ob) (nx+1):=bF rfl
theorem WN{d op ty po af g K s h nx ob k}:QW (some (.yC ob)) ⟨⟨d,op,ty,po,af,g⟩,K,s,h,nx⟩ k=K (fT d s (.mp nx)) (aK h nx ob) (nx+1):=bF rfl
theorem acE{d op ty po af g K s h nx v h' k}:EW P (some (.val v h')) ⟨⟨d,op,ty,po,af,g⟩,K,s,h,nx⟩ k=K (fT d s v) h' nx:=bF rfl
def Lo(len es n:Nat)(F:Nat->List Value->Prop)(_:Kp F):Prop:=∀(cap:Nat) (gs:List Value),len<=cap->n+gs.length=cap*es->F cap gs
theorem FO{d op ty po af g K s h nx cs e es len h' k}:EW P (some (.pT (.eP cs e es) len h')) ⟨⟨some d,op,ty,po,af,g⟩,K,s,h,nx⟩ k=Lo len es cs.length (λcap gs=>K (sset s d (.sl nx 0 len cap)) (aK h' nx (.cells (cs++gs.map .g) e)) (nx+1)) .mk:=bF rfl
theorem R7{d op ty po af g K s h nx f args k}:EW P (some (.enter f args)) ⟨⟨d,op,ty,po,af,g⟩,K,s,h,nx⟩ k=Bu P f args h nx (λv h' nx'=>K (fT d s v) h' nx') .mk:=bF rfl
def OpW(r:Option Oper)(F:Oper->Prop)(_:Kp F):Prop:=match r with|some o=>F o|none=>False
theorem RV{F:Oper->Prop}{k}:OpW (some o) F k=F o:=bF rfl
def CW(A B:Prop)(_:Kp B):Prop:=A/\B
theorem OU{B:Prop}{k}:CW True B k=B:=by simp[CW]
structure Sq where
 ops:Array Oper
 base:Nat
 i:Nat
 o:Oper
 K:BT AV->aG->Prop
 l:List Nat
 s:BT AV
 h:aG
def QN(P:Program)(r:Option QR)(x:Sq)(_:Kp x):Prop:=match r with
 |some q=>rM P x.ops x.base x.K x.l (fT x.o.dst x.s (q.av (x.base+x.i))) (match q.obj with|some ob=>aK x.h (x.base+x.i) ob|none=>x.h)
 |none=>False
theorem acR{ops base i d op ty po af g K l s h v k}:QN P (some (.val v)) ⟨ops,base,i,⟨d,op,ty,po,af,g⟩,K,l,s,h⟩ k=rM P ops base K l (fT d s v) h:=bF rfl
theorem V6{ops base i d op ty po af g K l s h ob k}:QN P (some (.xa ob)) ⟨ops,base,i,⟨d,op,ty,po,af,g⟩,K,l,s,h⟩ k=rM P ops base K l (fT d s (.ptr (base+i) 0)) (aK h (base+i) ob):=bF rfl
theorem Vu{ops base i d op ty po af g K l s h ob len cap k}:QN P (some (.pS ob len cap)) ⟨ops,base,i,⟨d,op,ty,po,af,g⟩,K,l,s,h⟩ k=rM P ops base K l (fT d s (.sl (base+i) 0 len cap)) (aK h (base+i) ob):=bF rfl
theorem VI{ops base i d op ty po af g K l s h ob k}:QN P (some (.yC ob)) ⟨ops,base,i,⟨d,op,ty,po,af,g⟩,K,l,s,h⟩ k=rM P ops base K l (fT d s (.mp (base+i))) (aK h (base+i) ob):=bF rfl
theorem Uu{ops base K s h}:rM P ops base K [] s h=K s h:=bF rfl
theorem Nu{ops base K i l s h}:rM P ops base K (i::l) s h=OpW ops[i]? (λo=>rE (dO ops s o) (QN P (dE P h (oZ s) o) ⟨ops,base,i,o,K,l,s,h⟩ .mk) (rM P ops base K l (fT o.dst s (.g undef)) h) .mk .mk) .mk:=by
 simp only[rM,OpW,rE,QN];cases ops[i]? with
 |none=>rfl
 |some o=>
  dsimp only;cases dO ops s o with
  |none=>rfl
  |some b=>cases b<;>rfl
theorem RP{ops base K new chk rest s h nx}:Du P xt ops base K ((new,chk,none)::rest) s h nx=rM P ops base (λs h=>CW (FJ P ops base s h chk) (K s h nx) .mk) new s h:=bF rfl
theorem W6{ops base K new chk e rest s h nx}:Du P xt ops base K ((new,chk,some e)::rest) s h nx=rM P ops base (λs h=>CW (FJ P ops base s h chk) (OpW ops[e]? (λo=>rE (dO ops s o) (EW P (nE P xt h (oZ s) o) ⟨o,Du P xt ops base K rest,s,h,nx⟩ .mk) (Du P xt ops base K rest (fT o.dst s (.g undef)) h nx) .mk .mk) .mk) .mk) new s h:=by
 simp only[Du]
 congr 1
 funext s h
 simp only[CW,OpW,rE,EW]
 congr 1
 cases ops[e]? with
 |none=>rfl
 |some o=>
  dsimp only;cases dO ops s o with
  |none=>rfl
  |some b=>cases b<;>rfl
theorem Uc{ops base s h}:FJ P ops base s h []=True:=bF rfl
theorem OV{ops base s h i l}:FJ P ops base s h (i::l)=((match ops[i]? with|none=>False|some o=>tG P ops base i o s h)/\FJ P ops base s h l):=bF rfl
@[congr] theorem abn{c c':AV}{A B:Prop}{a b}(h:c=c'):Cn c A B a b=Cn c' A B a b:=by rw[h]
@[congr] theorem ZJ{c c':Option Bool}{A B:Prop}{a b}(h:c=c'):rE c A B a b=rE c' A B a b:=by rw[h]
@[congr] theorem abu{c c':Bool}{A B:Prop}{a b}(h:c=c'):DD c A B a b=DD c' A B a b:=by rw[h]
@[congr] theorem aiZ{r r':Option QR}{x k}(h:r=r'):QW r x k=QW r' x k:=by rw[h]
@[congr] theorem ajS{r r':Option ER}{x k}(h:r=r'):EW P r x k=EW P r' x k:=by rw[h]
@[congr] theorem abl{f:FuncId}{args args':List AV}{h:aG}{nx:Nat}{K k}(e:args=args'):Bu P f args h nx K k=Bu P f args' h nx K k:=by rw[e]
@[congr] theorem aeP{r r':Option Oper}{F k}(h:r=r'):OpW r F k=OpW r' F k:=by rw[h]
@[congr] theorem acn{A A' B:Prop}{k}(h:A=A'):CW A B k=CW A' B k:=by rw[h]
@[congr] theorem aid{r r':Option QR}{x k}(h:r=r'):QN P r x k=QN P r' x k:=by rw[h]
@[congr] theorem abt{len es n n':Nat}{F k}(h:n=n'):Lo len es n F k=Lo len es n' F k:=by rw[h]
end
variable{op:BinOp}
section
variable{P:Program}
def bR(l:List UInt8):AV:= .g (.string ⟨l.toArray⟩)
abbrev int(n:Int):AV:= .g (.int .i64 n)
abbrev bQ(b:Bool):AV:= .g (.bool b)
theorem Rv:∀(x y:List UInt8),Op.bytesLess x y=decide (x<y)
 |[],[]=>by simp[Op.bytesLess]
 |_::_,[]=>by simp[Op.bytesLess]
 |[],_::_=>by simp[Op.bytesLess]
 |a::x,b::y=>by rw[Op.bytesLess,Rv x y];simp only[du];by_cases h1:a<b<;>by_cases h2:a=b<;>by_cases h3:x<y<;>simp[h1,h2,h3]
def vv(a b:List UInt8):Int:=if a<b then -1 else if b<a then 1 else 0
theorem tu:∀(a b:List UInt8),Lib.compareBytes a b=vv a b
 |[],[]=>by simp[Lib.compareBytes,vv]
 |[],_::_=>by simp[Lib.compareBytes,vv]
 |_::_,[]=>by simp[Lib.compareBytes,vv]
 |a::x,b::y=>by
  unfold Lib.compareBytes;rw[tu x y];unfold vv;simp only[du];have tri:a<b\/a=b\/b<a:=by
   rcases cI a.toNat b.toNat with h|h|h;.exact .inl (cW.2 h)
   .exact .inr (.inl (eA.1 h))
   .exact .inr (.inr (cW.2 h))
  rcases tri with h|h|h;.simp[h]
  .subst h;simp
  .have h':¬a<b:=UInt8.lt_asymm h;have h2:a≠b:=λe=>UInt8.lt_irrefl b (by rw[e]at h;exact h);simp[h,h',h2]
theorem YK(a b:List UInt8):goInt (Extern.BytealgCompare.cmp ⟨a.toArray⟩ ⟨b.toArray⟩)= .int .i64 (vv a b):=by rw[Lib.cmp_eq,<-tu];rfl
theorem k6(l:List UInt8):(ByteArray.mk l.toArray).toList=l:=by rw[ByteArray.toList_eq]
theorem Us{h:aG}{t:TypeId}{x y:Operand}{a b:ByteArray}:cZ P h op t x y (.g (.string a)) (.g (.string b))=ke P op t x y (.string a) (.string b):=by unfold cZ;simp only[eD,iG,AV.pd]
theorem NP{t:TypeId}{x y:Operand}{a b:ByteArray}:ke P op t x y (.string a) (.string b)=match br P (Op.stringOp op a b)with|some r=>some (.g r)|none=>none:=by cases op<;>rfl
theorem uO{h:aG}{t:TypeId}{x y:Operand}{a b:List UInt8}{v:Value}(hr:br P (Op.stringOp op ⟨a.toArray⟩ ⟨b.toArray⟩)=some v):cZ P h op t x y (bR a) (bR b)=some (.g v):=by unfold bR;rw[Us,NP,hr]
section
variable{h:aG}{t:TypeId}{x y:Operand}{a b:List UInt8}
theorem aaU:cZ P h .eql t x y (bR a) (bR b)=some (bQ (decide (a=b))):=by refine uO (v:= .bool (decide (a=b))) ?_;show some (Value.bool (_==_))=_;rw[k6,k6];congr 2;by_cases hh:a=b<;>simp[hh]
theorem WT:cZ P h .neq t x y (bR a) (bR b)=some (bQ (!decide (a=b))):=by refine uO (v:= .bool (!decide (a=b))) ?_;show some (Value.bool (!(_==_)))=_;rw[k6,k6];congr 3;by_cases hh:a=b<;>simp[hh]
theorem Zy:cZ P h .geq t x y (bR a) (bR b)=some (bQ (!decide (a<b))):=by refine uO (v:= .bool (!decide (a<b))) ?_;show some (Value.bool (!(Op.bytesLess _ _)))=_;rw[k6,k6,Rv]
theorem YQ:cZ P h .gtr t x y (bR a) (bR b)=some (bQ (!(decide (a<b)||decide (a=b)))):=by refine uO (v:= .bool (!(decide (a<b)||decide (a=b)))) ?_;show some (Value.bool (!(Op.bytesLess _ _||_==_)))=_;rw[k6,k6,Rv];congr 4;by_cases hh:a=b<;>simp[hh]
theorem jv(hl:a.length+b.length<2^62):cZ P h .add t x y (bR a) (bR b)=some (bR (a++b)):=by
 refine uO (v:= .string ⟨(a++b).toArray⟩) ?_;show br P (if((_+_:Nat):Int)>IntKind.i64.max then _ else _)=_;rw[ak (by show¬(((a.toArray.size+b.toArray.size:Nat):Int)>9223372036854775807);simp;omega)];show some (Value.string _)=_
 congr 2
end
end
end
end bC
end Go.Proofs.YtonnifoeokagjaaGreat
