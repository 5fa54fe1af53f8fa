/- The theorem plans_holds of OrdersPlans: part 2 of its proof; no conditions. -/
import Derived.Test.YtonnifoeokagjaaGreatF01
import Derived.Laws.BitsLemmas
import Derived.Laws.CopyRow
import Derived.Laws.Cells
import Derived.Laws.BytesString
import Derived.Laws.Tables
import Derived.Laws.Append
import Derived.Laws.AppendOwn
namespace Go.Proofs.YtonnifoeokagjaaGreat
set_option linter.all false
set_option maxRecDepth 8000
open Go Go.RowKit
namespace bC
noncomputable section
variable{a:AV}{b:Nat}{cs:List AV}{u:Value}
namespace BT
variable{α:Type}
theorem get_nil(n:Nat):(nil:BT α).get n=none:=rfl
theorem um(t:BT α):t.get 0=t.val:=by cases t<;>rfl
theorem acj(m:Nat):Nat.beq (Nat.mod m 2) 0=decide (m%2=0):=by
 by_cases h:m%2=0;.simp only[h,qF];show Nat.beq (m%2) 0=true;rw[h];rfl
 .simp only[h,oG];show Nat.beq (m%2) 0=false;cases hh:m%2 with
  |zero=>exact absurd hh h
  |succ k=>rfl
theorem uA(t:BT α)(m:Nat):t.get (m+1)=if m%2=0 then t.left.get (m / 2)else t.right.get (m / 2):=by
 cases t with
 |nil=>simp[get_nil,left,right]
 |node v l r=>show Bool.rec (motive:=λ_=>Option α) (r.get (Nat.div m 2)) (l.get (Nat.div m 2)) (Nat.beq (Nat.mod m 2) 0)=_;rw[acj];by_cases h:m%2=0<;>simp only[h,qF,oG,left,right,cz,cC]<;>rfl
theorem A0(f:Nat)(t:BT α)(a:α):set (f+1) t 0 a=node (some a) t.left t.right:=by cases t<;>rfl
theorem Ul(f:Nat)(t:BT α)(m:Nat)(a:α):set (f+1) t (m+1) a=if m%2=0 then node t.val (set f t.left (m / 2) a) t.right else node t.val t.left (set f t.right (m / 2) a):=by
 cases t with
 |nil=>show Bool.rec (motive:=λ_=>BT α) (node none nil (set f nil (Nat.div m 2) a)) (node none (set f nil (Nat.div m 2) a) nil) (Nat.beq (Nat.mod m 2) 0)=_;rw[acj];by_cases h:m%2=0<;>simp only[h,qF,oG,left,right,val,cz,cC]<;>rfl
 |node v l r=>show Bool.rec (motive:=λ_=>BT α) (node v l (set f r (Nat.div m 2) a)) (node v (set f l (Nat.div m 2) a) r) (Nat.beq (Nat.mod m 2) 0)=_;rw[acj];by_cases h:m%2=0<;>simp only[h,qF,oG,left,right,val,cz,cC]<;>rfl
theorem Aw:∀(f:Nat) (t:BT α) (n m:Nat) (a:α),n+1<2^f->(set f t n a).get m=if m=n then some a else t.get m
 |0,_,n,_,_,h=>by simp at h
 |f+1,t,n,m,a,h=>by
  cases n with
  |zero=>
   rw[A0];cases m with
   |zero=>simp[um,val]
   |succ m=>simp[uA,left,right]
  |succ n=>
   have hn:n / 2+1<2^f:=by rw[jR]at h;omega
   rw[Ul];by_cases hp:n%2=0
   .rw[aw hp];cases m with
    |zero=>simp[um,val]
    |succ m=>
     simp only[uA,left,right,Aw f _ _ _ _ hn];by_cases hm:m%2=0
     .simp only[hm,cz];by_cases he:m=n;.subst he;simp
      .have:m / 2≠n / 2:=ah;simp[this,he]
     .have:m≠n:=by intro e;subst e;exact hm hp
      simp[hm,this]
   .rw[ak hp];cases m with
    |zero=>simp[um,val]
    |succ m=>
     simp only[uA,left,right,Aw f _ _ _ _ hn];by_cases hm:m%2=0
     .have:m≠n:=by intro e;subst e;exact hp hm
      simp[hm,this]
     .simp only[hm,cC];by_cases he:m=n;.subst he;simp
      .have:m / 2≠n / 2:=ah;simp[this,he]
theorem Bk(n:Nat):n+1<2^(n+1)\/n=0:=by
 induction n with
 |zero=>exact .inr rfl
 |succ n ih=>
  left;rw[jR];rcases ih with h|h
  .omega
  .subst h;simp
end BT
theorem aj(h:aG)(b c:Nat)(o:AO):au (aK h b o) c=if c=b then some o else au h c:=by
 unfold au aK;rcases BT.Bk b with hb|rfl
 .exact BT.Aw _ _ _ _ _ hb
 .rw[BT.A0];cases c with
  |zero=>simp[BT.um,BT.val]
  |succ m=>simp[BT.uA,BT.left,BT.right]
theorem oq(t:BT AV)(i j:Nat)(v:AV):ao (sset t i v) j=if j=i then v else ao t j:=by
 unfold ao sset;have:(BT.set (i+1) t i v).get j=if j=i then some v else t.get j:=by
  rcases BT.Bk i with hb|rfl;.exact BT.Aw _ _ _ _ _ hb
  .rw[BT.A0];cases j with
   |zero=>simp[BT.um,BT.val]
   |succ m=>simp[BT.uA,BT.left,BT.right]
 rw[this];by_cases h:j=i<;>simp[h]
theorem Cg(i:Nat):ao .nil i= .g undef:=rfl
structure dG where
 m:Nat->Option (Nat×Nat)
 z:Nat->Nat->Option Value
instance:CoeFun dG (λ_=>Nat->Option (Nat×Nat)):=⟨dG.m⟩
def dG.upd(r:dG)(b:Nat)(x:Nat×Nat):dG:=⟨λc=>if c=b then some x else r c,r.z⟩
def dG.le(r r':dG):Prop:=(∀b x,r b=some x->r' b=some x)/\∀k o v,r.z k o=some v->r'.z k o=some v
theorem dG.le_refl(r:dG):dG.le r r:=⟨λ_ _ h=>h,λ_ _ _ h=>h⟩
theorem dG.le_trans{a b c:dG}(h:dG.le a b)(k:dG.le b c):dG.le a c:=⟨λ_ _ e=>k.1 _ _ (h.1 _ _ e),λ_ _ _ e=>k.2 _ _ _ (h.2 _ _ _ e)⟩
theorem dG.uM{r:dG}{x:Nat×Nat}(h:r b=none):dG.le r (r.upd b x):=by
 refine⟨?_,λ_ _ _ h=>h⟩;intro c y e;unfold dG.upd;by_cases hc:c=b;.subst hc;rw[h]at e;cases e
 .simp[hc,e]
theorem dG.gD(r:dG)(b:Nat)(x:Nat×Nat):r.upd b x b=some x:=by simp[dG.upd]
theorem dG.jI(r:dG){c:Nat}(x:Nat×Nat)(h:c≠b):r.upd b x c=r c:=by simp[dG.upd,h]
mutual
inductive VR(r:dG):AV->Value->Prop
 |g (v:Value):VR r (.g v) v
 |ptr {b off k n:Nat} (h:r b=some (k,n)):VR r (.ptr b off) (.pointer (some ⟨k,off,none⟩))
 |sl {b off len cap k n:Nat} (h:r b=some (k,n)):VR r (.sl b off len cap) (.slice (some ⟨k,off,none⟩) len cap)
 |mD {b off j len k n:Nat} (h:r b=some (k,n)) (hn:j+len<=n):VR r (.mD b off j len) (.slice (some ⟨k,off,none⟩) len (n-j))
 |sle {a:Addr} {c:Nat}:VR r .sle (.slice (some a) 0 c)
 |mp {b k n:Nat} (h:r b=some (k,n)):VR r (.mp b) (.map (some k))
 |sO {b k n:Nat} (h:r b=some (k,n)):VR r (.sO b) (.func (.yield k) #[] #[])
 |Cx:VR r (.fz 0 []) (.slice none 0 0)
 |Br {a:Addr} {c:Nat}:VR r (.fz 0 []) (.slice (some a) 0 c)
 |fz {k off len cap:Nat} {cs:List AV} {vs:List Value} (h:∀i v,vs[i]?=some v->r.z k (off+i)=some v) (hc:len<=cap) (hv:eM r cs vs):VR r (.fz len cs) (.slice (some ⟨k,off,none⟩) len cap)
 |ME:VR r .e0 (.slice none 0 0)
 |LZ {a:Addr}:VR r .e0 (.slice (some a) 0 0)
 |fp {k off:Nat} {cs:List AV} {vs:List Value} (h:∀i v,vs[i]?=some v->r.z k (off+i)=some v) (hv:eM r cs vs):VR r (.fp cs) (.pointer (some ⟨k,off,none⟩))
 |fn {f:FuncId} {cap:List AV} {c:List Value} (h:eM r cap c):VR r (.fn f cap) (.func (.func f) #[] c.toArray)
 |kB {t:TypeId} {v:AV} {u:Value} (h:VR r v u):VR r (.kB t v) (.iface t u)
 |agg {cs:List AV} {c:List Value} (h:eM r cs c):VR r (.agg cs) (.agg c.toArray)
 |dN {cs:List AV} {c:List Value} (h:eM r cs c):VR r (.dN cs) (.tuple c.toArray)
inductive eM(r:dG):List AV->List Value->Prop
 |nil:eM r [] []
 |cons {a:AV} {v:Value} {as:List AV} {vs:List Value} (h:VR r a v) (t:eM r as vs):eM r (a::as) (v::vs)
end
mutual
theorem VR.mono{r r':dG}(h:dG.le r r'):∀{a:AV} {v:Value},VR r a v->VR r' a v
 |_,_,.g v=> .g v
 |_,_,.ptr e=> .ptr (h.1 _ _ e)
 |_,_,.sl e=> .sl (h.1 _ _ e)
 |_,_,.mD e l=> .mD (h.1 _ _ e) l
 |_,_,.sle=> .sle
 |_,_,.mp e=> .mp (h.1 _ _ e)
 |_,_,.sO e=> .sO (h.1 _ _ e)
 |_,_,.Cx=> .Cx
 |_,_,.ME=> .ME
 |_,_,.LZ=> .LZ
 |_,_,.Br=> .Br
 |_,_,.fz e c t=> .fz (λi v q=>h.2 _ _ _ (e i v q)) c (eM.mono h t)
 |_,_,.fp e t=> .fp (λi v q=>h.2 _ _ _ (e i v q)) (eM.mono h t)
 |_,_,.fn e=> .fn (eM.mono h e)
 |_,_,.kB e=> .kB (VR.mono h e)
 |_,_,.agg e=> .agg (eM.mono h e)
 |_,_,.dN e=> .dN (eM.mono h e)
theorem eM.mono{r r':dG}(h:dG.le r r'):∀{a:List AV} {v:List Value},eM r a v->eM r' a v
 |_,_,.nil=> .nil
 |_,_,.cons e t=> .cons (VR.mono h e) (eM.mono h t)
end
theorem eM.length{r:dG}:∀{a:List AV} {v:List Value},eM r a v->a.length=v.length
 |_,_,.nil=>rfl
 |_,_,.cons _ t=>by simp[eM.length t]
theorem eM.append{r:dG}:∀{a a':List AV} {v v':List Value},eM r a v->eM r a' v'->eM r (a++a') (v++v')
 |_,_,_,_,.nil,h=>h
 |_,_,_,_,.cons e t,h=> .cons e (eM.append t h)
theorem eM.get{r:dG}:∀{a:List AV} {v:List Value},eM r a v->∀{i:Nat} {x:AV},a[i]?=some x->∃y,v[i]?=some y/\VR r x y
 |_,_,.nil,_,_,h=>by simp at h
 |_,_,.cons e t,0,x,h=>by simp at h;subst h;exact⟨_,rfl,e⟩
 |_,_,.cons e t,i+1,x,h=>by simp only[zd]at h⊢;exact eM.get t h
theorem eM.drop{r:dG}:∀{a:List AV} {v:List Value},eM r a v->∀n,eM r (a.drop n) (v.drop n)
 |_,_,h,0=>h
 |_,_,.nil,_+1=> .nil
 |_,_,.cons _ t,n+1=>eM.drop t n
theorem eM.take{r:dG}:∀{a:List AV} {v:List Value},eM r a v->∀n,eM r (a.take n) (v.take n)
 |_,_,_,0=>by simpa using eM.nil
 |_,_,.nil,_+1=> .nil
 |_,_,.cons e t,n+1=> .cons e (eM.take t n)
theorem eM.HL{r:dG}:∀(l:List Value),eM r (l.map .g) l
 |[]=> .nil
 |v::l=> .cons (.g v) (eM.HL l)
theorem eM.rep{r:dG}{a:List AV}{v:List Value}(h:eM r a v):∀n,eM r (fK n a) (fK n v)
 |0=> .nil
 |n+1=>h.append (eM.rep h n)
theorem eM.map{r:dG}{α:Type}(f:α->AV)(g:α->Value):∀(l:List α),(∀x∈l,VR r (f x) (g x))->eM r (l.map f) (l.map g)
 |[],_=> .nil
 |x::l,h=> .cons (h x bL) (eM.map f g l λy hy=>h y (by simp[hy]))
theorem eM.mem{r:dG}:∀{a:List AV} {v:List Value},eM r a v->∀y∈v,∃x∈a,VR r x y
 |_,_,.nil,_,h=>by cases h
 |_,_,.cons e t,y,h=>by
  rcases bE.1 h with rfl|h;.exact⟨_,bL,e⟩
  .obtain⟨x,hx,hv⟩:=eM.mem t y h;exact⟨x,by simp[hx],hv⟩
theorem vi{α:Type}:∀(n:Nat) (l:List α),iW n l=l[n]?
 |_,[]=>by simp;rfl
 |0,_::_=>rfl
 |n+1,_::l=>by show iW n l=_;simp[vi n l]
theorem qj{α:Type}:∀(n:Nat) (l r:List α),de n l=some r->r=l.take n/\n<=l.length
 |0,_,_,h=>by have h:some []=some _:=h;injection h with h;simp[<-h]
 |n+1,[],_,h=>by have h:none=some _:=h;cases h
 |n+1,a::l,r,h=>by
  have h:Option.rec (motive:=λ_=>Option (List α)) none (λr=>some (a::r)) (de n l)=some r:=h;cases hq:de n l with
  |none=>rw[hq]at h;cases h
  |some q=>rw[hq]at h;have h:some (a::q)=some r:=h;obtain⟨h1,h2⟩:=qj n l q hq;cases h;simp[h1];exact h2
theorem r9{α:Type}:∀(n:Nat) (l r:List α),ed n l=some r->r=l.drop n/\n<=l.length
 |0,l,_,h=>by have h:some l=some _:=h;injection h with h;simp[<-h]
 |n+1,[],_,h=>by have h:none=some _:=h;cases h
 |n+1,a::l,r,h=>by obtain⟨h1,h2⟩:=r9 n l r h;simp[h1];exact h2
theorem sH{α:Type}:∀(n:Nat) (l vs r:List α),dJ n l vs=some r->r=l.take n++vs++l.drop (n+vs.length)/\n+vs.length<=l.length
 |0,[],[],r,h=>by have h:some []=some r:=h;injection h with h;simp[<-h]
 |0,a::l,[],r,h=>by have h:some (a::l)=some r:=h;injection h with h;simp[<-h]
 |0,a::l,v::vs,r,h=>by
  have h:Option.rec (motive:=λ_=>Option (List α)) none (λr=>some (v::r)) (dJ 0 l vs)=some r:=h;cases hq:dJ 0 l vs with
  |none=>rw[hq]at h;cases h
  |some q=>
   rw[hq]at h;have h:some (v::q)=some r:=h;obtain⟨h1,h2⟩:=sH 0 l vs q hq;cases h;refine⟨?_,by simp at h2⊢;omega⟩;have jj:q=vs++l.drop vs.length:=by simpa using h1
   rw[jj];simp
 |0,[],_::_,r,h=>by have h:none=some r:=h;cases h
 |n+1,[],vs,r,h=>by have h:none=some r:=h;cases h
 |n+1,a::l,vs,r,h=>by
  have h:Option.rec (motive:=λ_=>Option (List α)) none (λr=>some (a::r)) (dJ n l vs)=some r:=h;cases hq:dJ n l vs with
  |none=>rw[hq]at h;cases h
  |some q=>rw[hq]at h;have h:some (a::q)=some r:=h;obtain⟨h1,h2⟩:=sH n l vs q hq;cases h;refine⟨?_,fE⟩;rw[h1];simp[Nat.add_right_comm n 1]
theorem tS{α:Type}(l:List α):∀n,(fK n l).length=n*l.length
 |0=>by simp[fK]
 |n+1=>by simp[fK,tS l n,mw,mq]
theorem LV{α:Type}(f:α->α):∀(n:Nat) (l:List α),Tk f n l=l.modify n f
 |_,[]=>by simp[Tk]
 |0,_::_=>rfl
 |n+1,_::l=>by simp[Tk,LV f n l]
mutual
theorem js{r:dG}:∀(a:AV) (v u:Value),a.pd=some v->VR r a u->u=v
 | .g w,v,u,h,hv=>by cases hv;simp[AV.pd]at h;exact h
 | .ptr ..,_,_,h,_=>by simp[AV.pd]at h
 | .sl ..,_,_,h,_=>by simp[AV.pd]at h
 | .mD ..,_,_,h,_=>by simp[AV.pd]at h
 | .sle,_,_,h,_=>by simp[AV.pd]at h
 | .mp _,_,_,h,_=>by simp[AV.pd]at h
 | .sO _,_,_,h,_=>by simp[AV.pd]at h
 | .fz ..,_,_,h,_=>by simp[AV.pd]at h
 | .fp _,_,_,h,_=>by simp[AV.pd]at h
 | .e0,_,_,h,_=>by simp[AV.pd]at h
 | .fn ..,_,_,h,_=>by simp[AV.pd]at h
 | .kB t a,v,u,h,hv=>by
  cases hv with
  |kB hv=>
   simp only[AV.pd]at h;split at h
   .rename_i w hw;injection h with h;subst h
    rw[js a w _ hw hv]
   .cases h
 | .agg cs,v,u,h,hv=>by
  cases hv with
  |agg hv=>
   simp only[AV.pd]at h;split at h
   .rename_i w hw;injection h with h;subst h
    rw[Ca cs w _ hw hv]
   .cases h
 | .dN _,_,_,h,_=>by simp[AV.pd]at h
theorem Ca{r:dG}:∀(a:List AV) (v u:List Value),AV.CX a=some v->eM r a u->u=v
 |[],v,u,h,hv=>by cases hv;simp[AV.CX]at h;exact h.symm▸rfl
 |a::as,v,u,h,hv=>by
  cases hv with
  |cons hv ht=>
   simp only[AV.CX]at h;split at h
   .rename_i w hw;split at h
    .rename_i l hl;injection h with h;subst h
     rw[js a w _ hw hv,Ca as l _ hl ht]
    .cases h
   .cases h
end
theorem uR{r:dG}(h:a.cells=some cs)(hv:VR r a u):eM r cs u.cells.toList:=by
 cases hv with
 |g=>
  cases u<;>simp only[AV.cells,bA]at h<;>first|(subst h;exact .cons (.g _) .nil)|skip
  case agg c=>subst h;exact eM.HL _
  case tuple=>cases h
 |agg hv=>simp only[AV.cells,bA]at h;subst h;simpa[Value.cells]using hv
 |dN hv=>simp[AV.cells]at h
 |ptr e=>simp only[AV.cells,bA]at h;subst h;exact .cons (.ptr e) .nil
 |sl e=>simp only[AV.cells,bA]at h;subst h;exact .cons (.sl e) .nil
 |mD e l=>simp only[AV.cells,bA]at h;subst h;exact .cons (.mD e l) .nil
 |sle=>simp only[AV.cells,bA]at h;subst h;exact .cons .sle .nil
 |ME=>simp only[AV.cells,bA]at h;subst h;exact .cons .ME .nil
 |LZ=>simp only[AV.cells,bA]at h;subst h;exact .cons .LZ .nil
 |Cx=>simp only[AV.cells,bA]at h;subst h;exact .cons .Cx .nil
 |Br=>simp only[AV.cells,bA]at h;subst h;exact .cons .Br .nil
 |fz e c t=>simp only[AV.cells,bA]at h;subst h;exact .cons (.fz e c t) .nil
 |fp e t=>simp only[AV.cells,bA]at h;subst h;exact .cons (.fp e t) .nil
 |mp e=>simp only[AV.cells,bA]at h;subst h;exact .cons (.mp e) .nil
 |sO e=>simp only[AV.cells,bA]at h;subst h;exact .cons (.sO e) .nil
 |fn e=>simp only[AV.cells,bA]at h;subst h;exact .cons (.fn e) .nil
 |kB e=>simp only[AV.cells,bA]at h;subst h;exact .cons (.kB e) .nil
theorem xJ{r:dG}(h:a.cy=true)(hv:VR r a u):u.oneCell'=true:=by
 cases hv with
 |g=>cases u<;>simp_all[AV.cy,Value.oneCell']
 |agg _=>simp[AV.cy]at h
 |dN _=>simp[AV.cy]at h
 |_=>rfl
mutual
theorem DZ(a b:Value)(h:UI a b=true):a=b:=by
 match a,b,h with
 | .bool a,.bool b,h=>simp[UI]at h;rw[h]
 | .int k a,.int k' b,h=>simp[UI]at h;rw[h.1,h.2]
 | .string ⟨⟨a⟩⟩,.string ⟨⟨b⟩⟩,h=>simp[UI]at h;rw[h]
 | .pointer none,.pointer none,_=>rfl
 | .pointer (some a),.pointer (some b),h=>simp[UI]at h;rw[h]
 | .slice none a b,.slice none c d,h=>simp[UI]at h;rw[h.1,h.2]
 | .map none,.map none,_=>rfl
 | .nilFunc,.nilFunc,_=>rfl
 | .nilIface,.nilIface,_=>rfl
 | .func (.func f) ⟨[]⟩ ⟨[]⟩,.func (.func g) ⟨[]⟩ ⟨[]⟩,h=>simp[UI]at h;rw[h]
 | .tuple ⟨[]⟩,.tuple ⟨[]⟩,_=>rfl
 | .agg ⟨a⟩,.agg ⟨b⟩,h=>rw[B' a b (by simpa[UI]using h)]
theorem B':∀(a b:List Value),NV a b=true->a=b
 |[],[],_=>rfl
 |[],_::_,h=>by simp[NV]at h
 |_::_,[],h=>by simp[NV]at h
 |a::as,b::bs,h=>by simp only[NV,aV]at h;rw[DZ a b h.1,B' as bs h.2]
end
mutual
theorem sK:∀(a b:AV),tc a b=true->a=b
 | .g a,b,h=>by cases b<;>simp[tc]at h;rw[DZ _ _ h]
 | .ptr ..,b,h=>by cases b<;>simp_all[tc]
 | .sl ..,b,h=>by cases b<;>simp_all[tc]
 | .mD ..,b,h=>by cases b<;>simp_all[tc]
 | .sle,b,h=>by cases b<;>simp_all[tc]
 | .mp _,b,h=>by cases b<;>simp_all[tc]
 | .sO _,b,h=>by cases b<;>simp_all[tc]
 | .fz n c,b,h=>by cases b<;>simp[tc]at h;rw[h.1,kV _ _ h.2]
 | .fp c,b,h=>by cases b<;>simp[tc]at h;rw[kV _ _ h]
 | .e0,b,h=>by cases b<;>simp_all[tc]
 | .fn f c,b,h=>by cases b<;>simp[tc]at h;rw[h.1,kV _ _ h.2]
 | .kB t a,b,h=>by cases b<;>simp[tc]at h;rw[h.1,sK _ _ h.2]
 | .agg cs,b,h=>by cases b<;>simp[tc]at h;rw[kV _ _ h]
 | .dN cs,b,h=>by cases b<;>simp[tc]at h;rw[kV _ _ h]
theorem kV:∀(a b:List AV),uk a b=true->a=b
 |[],[],_=>rfl
 |[],_::_,h=>by simp[uk]at h
 |_::_,[],h=>by simp[uk]at h
 |a::as,b::bs,h=>by simp only[uk,aV]at h;rw[sK a b h.1,kV as bs h.2]
end
theorem KC(a b:AO)(h:adU a b=true):a=b:=by
 unfold adU at h;split at h;.simp only[aV,kT]at h;rw[h.1,kV _ _ h.2]
 .rfl
 .cases h
theorem gT(k:IntKind)(n:Int):cF k n=k.wrap n:=by
 unfold cF;cases k<;>try rfl
 simp only;split;.rename_i h;simp only[PM,aV,fM]at h;rw[IntKind.wrap_i64];omega
 .rfl
theorem iC{α:Type}(P:Program):∀(s:Sem α) (a:α),br P s=some a->∀w,s.run P w= .ok a w
 | .pure b,a,h,w=>by simp[br]at h;simp[Sem.run,h]
 | .program k,a,h,w=>by simp only[br]at h;simp only[Sem.run];exact iC P (k P) a h w
 | .mark m k,a,h,w=>by simp only[br]at h;simp only[Sem.run];exact iC P k a h w
 | .load ..,_,h,_=>by simp[br]at h
 | .store ..,_,h,_=>by simp[br]at h
 | .new ..,_,h,_=>by simp[br]at h
 | .shape ..,_,h,_=>by simp[br]at h
 | .freeze ..,_,h,_=>by simp[br]at h
 | .frozen ..,_,h,_=>by simp[br]at h
 | .getObj ..,_,h,_=>by simp[br]at h
 | .setObj ..,_,h,_=>by simp[br]at h
 | .choose ..,_,h,_=>by simp[br]at h
 | .sys ..,_,h,_=>by simp[br]at h
 | .halt ..,_,h,_=>by simp[br]at h
variable{h h':aG}{k n n' nx nx':Nat}{o':AO}{r:dG}{us:List Value}{vs:List AV}{w w' w0:World}
inductive DR(r:dG):AD->Deferred->Prop
 |fn {f:FuncId} {cap args:List AV} {c as:List Value} (h:eM r cap c) (h':eM r args as):DR r (.fn f cap args) {target:= .fn (.func f) c.toArray,args:=as.toArray}
 |vr {b k n:Nat} (h:r b=some (k,n)):DR r (.vr b) {target:= .collected k,args:= #[]}
theorem DR.mono{r r':dG}(h:dG.le r r'){a:AD}{d:Deferred}:DR r a d->DR r' a d
 | .fn e e'=> .fn (e.mono h) (e'.mono h)
 | .vr e=> .vr (h.1 _ _ e)
inductive Ec(r:dG):List AD->List Deferred->Prop
 |nil:Ec r [] []
 |cons {a:AD} {d:Deferred} {as:List AD} {ds:List Deferred} (h:DR r a d) (t:Ec r as ds):Ec r (a::as) (d::ds)
theorem Ec.mono{r r':dG}(h:dG.le r r'):∀{a:List AD} {d:List Deferred},Ec r a d->Ec r' a d
 |_,_,.nil=> .nil
 |_,_,.cons e t=> .cons (e.mono h) (t.mono h)
theorem Ec.append{r:dG}:∀{a a':List AD} {v v':List Deferred},Ec r a v->Ec r a' v'->Ec r (a++a') (v++v')
 |_,_,_,_,.nil,h=>h
 |_,_,_,_,.cons e t,h=> .cons e (Ec.append t h)
def TR(r:dG)(t:BT AV)(a:Array Value):Prop:=∀i,VR r (ao t i) (a.getD i undef)
theorem TR.mono{r r':dG}(h:dG.le r r'){t:BT AV}{a:Array Value}(e:TR r t a):TR r' t a:=λi=>(e i).mono h
theorem TR.set{t:BT AV}{a:Array Value}(e:TR r t a){d:Nat}(hd:d<a.size){v:AV}(hv:VR r v u):TR r (sset t d v) (a.setIfInBounds d u):=by
 intro i;rw[oq];by_cases h:i=d;.subst h;simpa[hd]using hv
 .have:=e i;simp only[h,cC];simpa[eR,rZ (Ne.symm h)]using this
inductive vw(r:dG):List (AV×AV×Nat)->List MapEntry->Prop
 |nil:vw r [] []
 |cons {k v:AV} {n:Nat} {k' v':Value} {as:List (AV×AV×Nat)} {ms:List MapEntry} (hk:VR r k k') (hv:VR r v v') (t:vw r as ms):vw r ((k,v,n)::as) ({key:=k',val:=v',born:=n}::ms)
theorem vw.mono{r r':dG}(h:dG.le r r'):∀{a:List (AV×AV×Nat)} {d:List MapEntry},vw r a d->vw r' a d
 |_,_,.nil=> .nil
 |_,_,.cons e e' t=> .cons (e.mono h) (e'.mono h) (t.mono h)
theorem vw.length{r:dG}:∀{a:List (AV×AV×Nat)} {d:List MapEntry},vw r a d->a.length=d.length
 |_,_,.nil=>rfl
 |_,_,.cons _ _ t=>by simp[vw.length t]
theorem vw.push{r:dG}{k v:AV}{n:Nat}{k' v':Value}(hk:VR r k k')(hv:VR r v v'):∀{a:List (AV×AV×Nat)} {d:List MapEntry},vw r a d->vw r (a++[(k,v,n)]) (d++[{key:=k',val:=v',born:=n}])
 |_,_,.nil=> .cons hk hv .nil
 |_,_,.cons a b t=> .cons a b (vw.push hk hv t)
theorem vw.modify{r:dG}{k v:AV}{k' v':Value}(hk:VR r k k')(hv:VR r v v'):∀{a:List (AV×AV×Nat)} {d:List MapEntry},vw r a d->∀i,vw r (a.modify i λe=>(k,v,e.2.2)) (d.modify i λe=>{e with key:=k',val:=v'})
 |_,_,.nil,i=>by simpa using vw.nil
 |_,_,.cons a b t,0=> .cons hk hv t
 |_,_,.cons a b t,i+1=> .cons a b (vw.modify hk hv t i)
def LR(r:dG)(l:mM)(x:Loop):Prop:=
 x.state=l.state/\x.pending=l.pending/\x.fn=l.fn/\TR r l.cE x.tmps/\x.tmps.size=l.size/\x.params.toList=l.params/\x.assign=l.assign/\x.body=l.body/\∃n,r l.defers=some (x.defers,n)
theorem LR.mono{r r':dG}(h:dG.le r r'){l:mM}{x:Loop}(e:LR r l x):LR r' l x:=by obtain⟨a,b,c,d,f,g,i,j,n,k⟩:=e;exact⟨a,b,c,d.mono h,f,g,i,j,n,h.1 _ _ k⟩
def OR(r:dG)(o:AO)(n:Nat)(x:Option Obj):Prop:=
 match o with
 | .cells cs e=>∃c,x=some (.cells c.toArray e (0,0))/\eM r cs c
 | .eP cs e es=>∃c c',x=some (.cells (c++c').toArray e (0,0))/\eM r cs c/\(c++c').length=n*es
 | .map es clock=>∃l,x=some (.map l.toArray clock)/\vw r es l
 | .loop l=>∃y,x=some (.loop y)/\LR r l y
 | .defs none=>x=some (.deferred none)
 | .defs (some ds)=>∃l,x=some (.deferred (some l))/\Ec r ds l
 | .dead=>True
theorem OR.mono{r r':dG}(h:dG.le r r'){o:AO}{n:Nat}{x:Option Obj}(e:OR r o n x):OR r' o n x:=by
 cases o with
 |cells cs el=>obtain⟨c,e,v⟩:=e;exact⟨c,e,v.mono h⟩
 |eP cs el es=>obtain⟨c,c',e,v,l⟩:=e;exact⟨c,c',e,v.mono h,l⟩
 |map es cl=>obtain⟨l,e,v⟩:=e;exact⟨l,e,v.mono h⟩
 |loop l=>obtain⟨y,e,v⟩:=e;exact⟨y,e,v.mono h⟩
 |defs c=>
  cases c with
  |none=>exact e
  |some ds=>obtain⟨l,e,v⟩:=e;exact⟨l,e,v.mono h⟩
 |dead=>trivial
def AO.live:AO->Prop
 | .dead=>False
 |_=>True
def Frz(r:dG)(h:aG)(w:World):Prop:=
 ∀k o v,r.z k o=some v->w.cell? ⟨k,o,none⟩=some v/\∀b n q,r b=some (k,n)->au h b=some q->¬q.live
structure HR(r:dG)(h:aG)(next:Nat)(w0 w:World):Prop where
 below:Below w0.heap.size w0 w
 sk:Frz r h w
 xP:∀b x,r b=some x->b<next/\w0.heap.size<=x.1/\x.1<w.heap.size
 obj:∀b o k n,au h b=some o->r b=some (k,n)->OR r o n w.heap[k]?
 inj:∀b b' o o' k n n',au h b=some o->au h b'=some o'->o.live->o'.live->r b=some (k,n)->r b'=some (k,n')->b=b'
theorem HR.fresh(hr:HR r h nx w0 w)(hb:nx<=b):r b=none:=by
 cases e:r b with
 |none=>rfl
 |some x=>exact absurd (hr.xP b x e).1 ah
def dG.none:dG:=⟨λ_=>Option.none,λ_ _=>Option.none⟩
theorem HR.start(w:World):HR dG.none .nil 0 w w:=
 ⟨Below.refl _ _,λ_ _ _ h=>(by cases h),λ_ _ h=>(by cases h),λ_ _ _ _ _ h=>(by cases h),λ_ _ _ _ _ _ _ _ _ _ _ h=>(by cases h)⟩
theorem vJ(h:w'.heap[k]?=w.heap[k]?)(o:Nat):w'.cell? ⟨k,o,none⟩=w.cell? ⟨k,o,none⟩:=by simp only[World.cell?,h]
theorem Ln{o:Nat}{v:Value}(h:w.cell? ⟨k,o,none⟩=some v):k<w.heap.size:=by apply cS;intro hn;have:w.heap[k]?=Option.none:=Array.getElem?_eq_none ah;simp[World.cell?,this]at h
theorem HR.drew(hr:HR r h nx w0 w):HR r h nx w0 {w with drawn:=w.drawn+1}:=
 ⟨⟨hr.below.os,hr.below.tape,hr.below.output,hr.below.size,hr.below.block⟩,hr.sk,hr.xP,hr.obj,hr.inj⟩
theorem HR.next(hr:HR r h nx w0 w)(hn:nx<=nx'):HR r h nx' w0 w:=
 ⟨hr.below,hr.sk,λb x e=>⟨aP (hr.xP b x e).1 hn,(hr.xP b x e).2⟩,hr.obj,hr.inj⟩
theorem HR.heap(hr:HR r h nx w0 w)(hh:∀b x,r b=some x->au h' b=au h b):HR r h' nx w0 w:=
 ⟨hr.below,λk o v e=>⟨(hr.sk k o v e).1,λb n q e1 e2=>(hr.sk k o v e).2 b n q e1 (by rw[<-hh b _ e1];exact e2)⟩,hr.xP,λb o k n e e'=>hr.obj b o k n (by rw[<-hh b _ e'];exact e) e',
  λb b' o o' k n n' e e' l l' f f'=>hr.inj b b' o o' k n n' (by rw[<-hh b _ f];exact e) (by rw[<-hh b' _ f'];exact e') l l' f f'⟩
structure FH(w w':World)(k:Nat)(obj:Obj):Prop where
 os:w'.os=w.os
 tape:w'.tape=w.tape
 output:w'.output=w.output
 size:w'.heap.size=w.heap.size
 other:∀j,j≠k->w'.heap[j]?=w.heap[j]?
 this:w'.heap[k]?=some obj
theorem HR.set(hr:HR r h nx w0 w)(hb:r b=some (k,n)){o:AO}(ho:au h b=some o)(hl:o.live)
 {obj:Obj} (PR:OR r o' n (some obj)) (ht:FH w w' k obj):HR r (aK h b o') nx w0 w':=by
 have hk:=hr.xP b _ hb;refine⟨⟨ht.os.trans hr.below.os,ht.tape.trans hr.below.tape,ht.output.trans hr.below.output,by rw[ht.size];exact hr.below.size,λj hj=>?_⟩,λk' o1 v1 e1=>⟨?_,λc n1 q e2 e3 l3=>?_⟩,λc x e=>?_,λc q k' n' e e'=>?_,λc c' q q' k' n₁ n₂ e e' l l' f f'=>?_⟩;.rw[ht.other j (by simp at hk;omega)];exact hr.below.block j hj
 .have cx:k'≠k:=λe2=>(hr.sk k' o1 v1 e1).2 b n o (by rw[e2];exact hb) ho hl;rw[vJ (ht.other k' cx)];exact(hr.sk k' o1 v1 e1).1
 .rw[aj]at e3;by_cases hc:c=b;.subst hc;exact(hr.sk k' o1 v1 e1).2 c n1 o e2 ho hl
  .simp only[hc,cC]at e3;exact(hr.sk k' o1 v1 e1).2 c n1 q e2 e3 l3
 .have:=hr.xP c x e;rw[ht.size];exact this
 .rw[aj]at e;by_cases hc:c=b
  .subst hc;rw[hb]at e';injection e' with e';injection e' with e1 e2;subst e1;subst e2
   simp at e;subst e;rw[ht.this];exact PR
  .simp only[hc,cC]at e;by_cases Cv:k'=k
   .subst Cv;cases q with
    |dead=>trivial
    |_=>exact absurd (hr.inj c b _ _ k' n' n e ho trivial hl e' hb) hc
   .rw[ht.other k' Cv];exact hr.obj c q k' n' e e'
 .rw[aj]at e e';have hx:∃p,au h c=some p/\p.live:=by
   by_cases hc:c=b;.subst hc;exact⟨o,ho,hl⟩
   .simp only[hc,cC]at e;exact⟨q,e,l⟩
  have hy:∃p,au h c'=some p/\p.live:=by
   by_cases hc:c'=b;.subst hc;exact⟨o,ho,hl⟩
   .simp only[hc,cC]at e';exact⟨q',e',l'⟩
  obtain⟨p,hp,lp⟩:=hx;obtain⟨p',L7,lp'⟩:=hy;exact hr.inj c c' p p' k' n₁ n₂ hp L7 lp lp' f f'
theorem HR.alloc(hr:HR r h nx w0 w){id:Nat}(Gw:r id=none)(db:id<nx')(hle:nx<=nx')
 {o:AO} {obj:Obj} (ho:au h' id=some o) (hh:∀b x,r b=some x->au h' b=au h b) (PR:OR r o n (some obj)):
 HR (r.upd id (w.heap.size,n)) h' nx' w0 {w with heap:=w.heap.push obj}:=by
 have RH:=dG.uM (x:=(w.heap.size,n)) Gw;refine⟨⟨hr.below.os,hr.below.tape,hr.below.output,?_,λj hj=>?_⟩,λk' o1 v1 e1=>⟨?_,λc n1 q e2 e3 l3=>?_⟩,λc x e=>?_,λc q k' n' e e'=>?_,λc c' q q' k' n₁ n₂ e e' l l' f f'=>?_⟩;.have:=hr.below.size;simp;omega
 .have:=hr.below.size;show(w.heap.push obj)[j]?=_;rw[uF,ak ah];exact hr.below.block j hj
 .have h1:=(hr.sk k' o1 v1 e1).1;have h2:=Ln h1;rw[vJ (w:=w) (by show(w.heap.push obj)[k']?=_;rw[uF,ak ah])];exact h1
 .by_cases hc:c=id
  .subst hc;rw[dG.gD]at e2;injection e2 with e2;injection e2 with e2 _
   have h2:=Ln (hr.sk k' o1 v1 e1).1;omega
  .rw[dG.jI _ _ hc]at e2;exact(hr.sk k' o1 v1 e1).2 c n1 q e2 (by rw[<-hh c _ e2];exact e3) l3
 .by_cases hc:c=id;.subst hc;rw[dG.gD]at e;cases e;have:=hr.below.size;exact⟨db,this,bL⟩
  .rw[dG.jI _ _ hc]at e;have:=hr.xP c x e;refine⟨ah,this.2.1,?_⟩;have:=this.2.2;simp;omega
 .show OR _ q n' (w.heap.push obj)[k']?;by_cases hc:c=id
  .subst hc;rw[dG.gD]at e';injection e' with e';injection e' with e1 e2;subst e1;subst e2
   rw[ho]at e;cases e;rw[uF,aw rfl];exact PR.mono RH
  .rw[dG.jI _ _ hc]at e';have:=(hr.xP c _ e').2.2;simp only at this;rw[uF,ak ah];exact(hr.obj c q k' n' (by rw[<-hh c _ e'];exact e) e').mono RH
 .by_cases hc:c=id<;>by_cases wA:c'=id;.rw[hc,wA]
  .subst hc;rw[dG.gD]at f;injection f with f;injection f with f1 f2
   rw[dG.jI _ _ wA]at f';have:=(hr.xP c' _ f').2.2;simp at this;omega
  .subst wA;rw[dG.gD]at f';injection f' with f';injection f' with f1 f2
   rw[dG.jI _ _ hc]at f;have:=(hr.xP c _ f).2.2;simp at this;omega
  .rw[dG.jI _ _ hc]at f;rw[dG.jI _ _ wA]at f';exact hr.inj c c' q q' k' n₁ n₂ (by rw[<-hh c _ f];exact e) (by rw[<-hh c' _ f'];exact e') l l' f f'
theorem HR.Bn(hr:HR r h nx w0 w)(hb:r b=some (k,n)){o:AO}(ho:au h b=some o)(hl:o.live)(hn:b≠nx)
  {obj:Obj} (PR:OR r o' n' (some obj)) (ht:FH w w' k obj):
 HR (r.upd nx (k,n')) (aK (aK h b .dead) nx o') (nx+1) w0 w':=by
 have Ce:r nx=none:=hr.fresh (an _);have RH:=dG.uM (x:=(k,n')) Ce;have h1:HR r (aK h b .dead) nx w0 w':=hr.set hb ho hl (o':= .dead) (n:=n) (obj:=obj) trivial ht;have hk:=hr.xP b _ hb;refine⟨h1.below,λk' o1 v1 e1=>⟨(h1.sk k' o1 v1 e1).1,λc n1 q e2 e3 l3=>?_⟩,λc x e=>?_,λc q k' m e e'=>?_,λc c' q q' k' n₁ n₂ e e' l l' f f'=>?_⟩
 .by_cases hc:c=nx
  .subst hc;rw[dG.gD]at e2;injection e2 with e2;injection e2 with e2 _;subst e2
   exact(hr.sk _ o1 v1 e1).2 b n o hb ho hl
  .rw[dG.jI _ _ hc]at e2;rw[aj]at e3;simp only[hc,cC]at e3;exact(h1.sk k' o1 v1 e1).2 c n1 q e2 e3 l3
 .by_cases hc:c=nx;.subst hc;rw[dG.gD]at e;cases e;refine⟨ah,hk.2.1,?_⟩;rw[ht.size];exact hk.2.2
  .rw[dG.jI _ _ hc]at e;have:=h1.xP c x e;exact⟨ah,this.2⟩
 .rw[aj]at e;by_cases hc:c=nx
  .subst hc;rw[dG.gD]at e';injection e' with e';injection e' with e1 e2;subst e1;subst e2
   simp at e;subst e;rw[ht.this];exact PR.mono RH
  .simp only[hc,cC]at e;rw[dG.jI _ _ hc]at e';exact(h1.obj c q k' m e e').mono RH
 .rw[aj]at e e';have key:∀c q n₁,c≠nx->au (aK h b .dead) c=some q->q.live->r c=some (k,n₁)->False:=by
   intro c q n₁ hc e l f;rw[aj]at e;by_cases NH:c=b;.subst NH;simp at e;subst e;exact l
   .simp only[NH,cC]at e;exact NH (hr.inj c b q o k n₁ n e ho l hl f hb)
  by_cases hc:c=nx<;>by_cases wA:c'=nx;.rw[hc,wA]
  .subst hc;rw[dG.gD]at f;injection f with f;injection f with f1 f2;subst f1
   rw[dG.jI _ _ wA]at f';simp only[wA,cC]at e';exact(key c' q' n₂ wA e' l' f').elim
  .subst wA;rw[dG.gD]at f';injection f' with f';injection f' with f1 f2;subst f1
   rw[dG.jI _ _ hc]at f;simp only[hc,cC]at e;exact(key c q n₁ hc e l f).elim
  .rw[dG.jI _ _ hc]at f;rw[dG.jI _ _ wA]at f';simp only[hc,cC]at e;simp only[wA,cC]at e';exact h1.inj c c' q q' k' n₁ n₂ e e' l l' f f'
theorem HR.kill(hr:HR r h nx w0 w)(b:Nat):HR r (aK h b .dead) nx w0 w:=by
 refine⟨hr.below,λk' o1 v1 e1=>⟨(hr.sk k' o1 v1 e1).1,λc n1 q e2 e3 l3=>?_⟩,hr.xP,λc q k' m e e'=>?_,λc c' q q' k' n₁ n₂ e e' l l' f f'=>?_⟩
 .rw[aj]at e3;by_cases hc:c=b;.simp[hc]at e3;subst e3;exact l3.elim
  .simp only[hc,cC]at e3;exact(hr.sk k' o1 v1 e1).2 c n1 q e2 e3 l3
 .rw[aj]at e;by_cases hc:c=b;.simp[hc]at e;subst e;trivial
  .simp only[hc,cC]at e;exact hr.obj c q k' m e e'
 .rw[aj]at e e';have key:∀c q,(if c=b then some AO.dead else au h c)=some q->q.live->au h c=some q:=by
   intro c q e l;by_cases hc:c=b;.simp[hc]at e;subst e;exact l.elim
   .simpa[hc]using e
  exact hr.inj c c' q q' k' n₁ n₂ (key c q e l) (key c' q' e' l') l l' f f'
theorem HR.cells{r:dG}{h:aG}{nx:Nat}{w0 w:World}(hr:HR r h nx w0 w){b k n:Nat}(hb:r b=some (k,n)){o:AO}(ho:au h b=some o){cs:List AV}(hc:o.cells?=some cs):
 ∃(c c':List Value) (e:TypeId),w.heap[k]?=some (.cells (c++c').toArray e (0,0))/\eM r cs c:=by
 have:=hr.obj b o k n ho hb;cases o<;>simp[AO.cells?]at hc;.obtain⟨c,e,v⟩:=this;subst hc;exact⟨c,[],_,by simpa using e,v⟩
 .obtain⟨c,c',e,v,_⟩:=this;subst hc;exact⟨c,c',_,e,v⟩
theorem yZ(hr:HR r h nx w0 w){off:Nat}{vs:List Value}(hz:∀i v,vs[i]?=some v->r.z k (off+i)=some v):
 ∀i v,vs[i]?=some v->w.cell? ⟨k,off+i,none⟩=some v:=λi v e=>(hr.sk _ _ _ (hz i v e)).1
theorem iT(k off i:Nat):(⟨k,off,none⟩:Addr).add i=⟨k,off+i,none⟩:=by unfold Addr.add;split<;>simp_all
theorem mL(hr:HR r h nx w0 w){m off:Nat}(hb:r b=some (k,m)){l:List AV}(hl:cK h b off n=some l):
 ∃vs,eM r l vs/\vs.length=n/\(∀(j:Nat) (v:Value),vs[j]?=some v->w.cell? ((⟨k,off,none⟩:Addr).add j)=some v)/\∃c e,w.heap[k]?=some (.cells c e (0,0))/\off+n<=c.size:=by
 unfold cK at hl;split at hl
 .rename_i o ho;split at hl
  .rename_i cs hc;obtain⟨c,c',e,hk,hv⟩:=hr.cells hb ho hc;split at hl
   .rename_i q hq;obtain⟨rfl,h1⟩:=r9 _ _ _ hq;obtain⟨rfl,h2⟩:=qj _ _ _ hl;have bP:=hv.length;refine⟨(c.drop off).take n,(hv.drop off).take n,?_,λj v hj=>?_,_,e,hk,?_⟩;.simp at h2⊢;omega
    .rw[iT];have hj':c[off+j]?=some v:=by
      simp only[eE,gV]at hj;split at hj;.exact hj
      .cases hj
     have db:=(cT.1 hj').1;simp[World.cell?,hk,cj db,hj']
    .simp at h2⊢;omega
   .cases hl
  .cases hl
 .cases hl
theorem rS{c:Array Value}{e:TypeId}(hk:w.heap[k]?=some (.cells c e (0,0)))(c':Array Value):FH w (w.setRow k c') k (.cells c' e (0,0)):=by refine⟨rfl,rfl,rfl,by simp[World.setRow],λj hj=>?_,setRow_heap w k c c' e (0,0) hk⟩;simp only[World.setRow,Array.getElem?_modify];rw[ak (Ne.symm hj)]
theorem lD(P:Program)(hr:HR r h nx w0 w){m off:Nat}(hb:r b=some (k,m))(hv:eM r vs us)
 (h1:∀u∈us,u.oneCell'=true) (hs:eQ h b off vs=some h'):
 ∃w',(storeCells ⟨k,off,none⟩ us).run P w= .ok () w'/\HR r h' nx w0 w'/\w'.heap.size=w.heap.size:=by
 have bP:=hv.length;unfold eQ at hs;split at hs
 .rename_i cs e ho;obtain⟨c,hk,hc⟩:=hr.obj b _ k m ho hb;have xy:=hc.length;split at hs
  .rename_i q hq;injection hs with hs;subst hs
   obtain⟨rfl,hle⟩:=sH _ _ _ _ hq;have ec:=run_storeCells_at P k off e us 0 c.toArray w hk fE h1;refine⟨_,ec,hr.set hb ho trivial (o':= .cells _ e) ⟨_,rfl,?_⟩ (rS hk _),by simp[World.setRow]⟩;simp only[dD];exact((hc.take _).append hv).append (bP▸hc.drop _)
  .cases hs
 .rename_i cs e es ho;obtain⟨c,c',hk,hc,hl⟩:=hr.obj b _ k m ho hb;have xy:=hc.length;split at hs
  .rename_i q hq;injection hs with hs;subst hs
   obtain⟨rfl,hle⟩:=sH _ _ _ _ hq;have ec:=run_storeCells_at P k off e us 0 (c++c').toArray w hk fE h1;refine⟨_,ec,hr.set hb ho trivial (o':= .eP _ e es) ⟨c.take off++us++c.drop (off+us.length),c',?_,?_,?_⟩ (rS hk _),by simp[World.setRow]⟩
   .simp only[dD]
    congr 3
    have a1:(c++c').take off=c.take off:=aB ah;have a2:(c++c').drop (off+us.length)=c.drop (off+us.length)++c':=cg ah;simp[a1,a2]
   .exact((hc.take _).append hv).append (bP▸hc.drop _)
   .simp at hl⊢;omega
  .cases hs
 .cases hs
variable{q:Bool}{t:TypeId}
section
variable{P:Program}
theorem u9{i:TypeInfo}(h:P.info? t=some i)(w:World):(typeInfo t).run P w= .ok i w:=by simp[typeInfo,h]
theorem en(h:cN P t=some n)(w:World):(sizeOf t).run P w= .ok n w:=by
 unfold cN at h;split at h
 .rename_i i hi;injection h with h
  simp[sizeOf,u9 hi,h]
 .cases h
theorem wS{b:Bool}(h:yg P t=some b)(w:World):(isAgg t).run P w= .ok b w:=by
 unfold yg at h;split at h;.rename_i fs hf;injection h with h;subst h;simp[isAgg,run_underlying hf]
 .rename_i n e hf;injection h with h;subst h;simp[isAgg,run_underlying hf]
 .rename_i d h1 h2 hd;injection h with h;subst h
  simp only[isAgg,Sem.run_bind,run_underlying hd,Result.andThen_ok];cases d<;>first|rfl|exact(h1 _ rfl).elim|exact(h2 _ _ rfl).elim
 .cases h
theorem mH{v:Value}(h:mc P t=some v)(w:World):(zeroValue t).run P w= .ok v w:=by
 unfold mc at h;split at h;.rename_i i hi;simp[zeroValue,u9 hi,h]
 .cases h
theorem xu{l:List Value}(h:dy P t=some l):∃v,mc P t=some v/\v.cells.toList=l:=by
 unfold dy at h;unfold mc;split at h
 .rename_i i hi;split at h
  .rename_i v hv;injection h with h
   exact⟨v,hv,h⟩
  .cases h
 .cases h
theorem JZ(h:kg P t=some n)(w:World):∃i,(typeInfo t).run P w= .ok i w/\i.bytes=n:=by
 unfold kg at h;split at h
 .rename_i i hi;injection h with h
  exact⟨i,u9 hi w,h⟩
 .cases h
end
theorem aeE(hr:HR r h nx w0 w){m off:Nat}(hb:r b=some (k,m)){o:AO}(ho:au h b=some o)(hc:o.cells?=some cs)
 {v:AV} (hv:iW off cs=some v):∃u,w.cell? ⟨k,off,none⟩=some u/\VR r v u:=by
 obtain⟨c,c',e,hk,xV⟩:=hr.cells hb ho hc;rw[vi]at hv;obtain⟨u,hu,NR⟩:=xV.get hv;have db:=(cT.1 hu).1;exact⟨u,by simp[World.cell?,hk,cj db,hu],NR⟩
theorem zE(P:Program)(hr:HR r h nx w0 w){v:AV}{x:Value}(hx:VR r a x)(hl:vD P h t a=some v):
 ∃k off u,x= .pointer (some ⟨k,off,none⟩)/\(loadVar t ⟨k,off,none⟩).run P w= .ok u w/\VR r v u:=by
 unfold vD at hl;split at hl
 .rename_i b off;cases hx with
  |ptr hb=>
   rename_i k m;split at hl
   .rename_i n ha hs;split at hl
    .rename_i l Gv;injection hl with hl;subst hl
     obtain⟨vs,ti,bP,jo,_⟩:=mL hr hb Gv;refine⟨k,off,.agg vs.toArray,rfl,?_,.agg ti⟩;have:=run_loadCells_list (P:=P) w ⟨k,off,none⟩ vs jo;rw[bP]at this;simp[loadVar,wS ha,en hs,this]
    .cases hl
   .rename_i n ha hs;split at hl
    .rename_i o ho;split at hl;.rename_i cs hc;obtain⟨u,hu,NR⟩:=aeE hr hb ho hc hl;exact⟨k,off,u,rfl,by simp[loadVar,wS ha,hu],NR⟩
     .cases hl
    .cases hl
   .cases hl
 .rename_i cs;cases hx with
  |fp hz hv=>
   rename_i k off vs;have hc:=yZ hr hz;split at hl
   .rename_i n ha hs;split at hl
    .rename_i l Gv;injection hl with hl;subst hl
     obtain⟨rfl,hle⟩:=qj _ _ _ Gv;have bP:=hv.length;refine⟨k,off,.agg (vs.take n).toArray,rfl,?_,.agg (hv.take n)⟩;have:=run_loadCells_list (P:=P) w ⟨k,off,none⟩ (vs.take n) λj v hj=>by
      rw[iT];rw[eE]at hj;split at hj;.exact hc j v hj
      .cases hj
     rw[ax,show min n vs.length=n from ah]at this;simp[loadVar,wS ha,en hs,this]
    .cases hl
   .rename_i n ha hs;rw[vi]at hl;obtain⟨u,hu,NR⟩:=hv.get hl;have hcu:=hc 0 u hu;simp only[dD]at hcu;exact⟨k,off,u,rfl,by simp[loadVar,wS ha,hcu],NR⟩
   .cases hl
 .cases hl
theorem Cc{x:Value}(h:JQ a=true)(hv:VR r a x):∃ad l c,x= .slice (some ad) l c:=by
 cases hv<;>simp[JQ]at h;.exact⟨_,_,_,rfl⟩
 .exact⟨_,_,_,rfl⟩
 .exact⟨_,_,_,rfl⟩
 .exact⟨_,_,_,rfl⟩
theorem zy{x:Value}(h:xh a=true)(hv:VR r a x):∃l c,x= .slice none l c:=by
 cases hv<;>try(simp[xh]at h;done)
 cases x<;>try(simp[xh]at h;done)
 rename_i ad _ _;cases ad;.exact⟨_,_,rfl⟩
 .simp[xh]at h
theorem A9{x:Value}(h:Wo a=true)(hv:VR r a x):∃k,x= .map (some k):=by cases hv<;>simp[Wo]at h;exact⟨_,rfl⟩
theorem zF{x:Value}(h:Dl a=true)(hv:VR r a x):x= .map none:=by
 cases hv<;>try(simp[Dl]at h;done)
 cases x<;>try(simp[Dl]at h;done)
 rename_i k;cases k;.rfl
 .simp[Dl]at h
theorem BR{x:Value}(h:TA a=true)(hv:VR r a x):∃f b c,x= .func f b c:=by
 cases hv<;>simp[TA]at h;.exact⟨_,_,_,rfl⟩
 .exact⟨_,_,_,rfl⟩
theorem zk{x:Value}(h:Dk a=true)(hv:VR r a x):x= .nilFunc:=by
 cases hv<;>try(simp[Dk]at h;done)
 cases x<;>first|rfl|simp[Dk]at h
theorem AN{x:Value}(h:isIf a=true)(hv:VR r a x):∃t v,x= .iface t v:=by cases hv<;>simp[isIf]at h;exact⟨_,_,rfl⟩
theorem zi{x:Value}(h:De a=true)(hv:VR r a x):x= .nilIface:=by
 cases hv<;>try(simp[De]at h;done)
 cases x<;>first|rfl|simp[De]at h
def JN(x y:Value):Prop:=¬(x= .nilIface/\y= .nilIface)/\(∀cs,x≠ .agg cs)/\(∀k n,x≠ .int k n)/\(∀s,x≠ .string s)/\(∀k n,x≠ .float k n)/\(∀k n m,x≠ .complex k n m)
theorem pU{p b:Bool}(h:qJ p q=some b):b=false/\(p=true\/q=true):=by
 unfold qJ at h;split at h
 .rename_i hp;injection h with h
  exact⟨h.symm,by simpa using hp⟩
 .cases h
theorem AL(P:Program)(hr:HR r h nx w0 w){b:AV}{x y:Value}(hx:VR r a x)(hy:VR r b y)(he:vy P h t a b=some q)(d:Nat):
 (Op.equalIn (d+1) t x y).run P w= .ok q w/\JN x y:=by
 unfold vy at he;split at he
 .rename_i e hu;unfold DH at he;split at he
  .rename_i b1 off;cases hx with
   |ptr h1=>
   rename_i k m;split at he
   .rename_i b' MP;cases hy with
    |ptr h2=>
    rename_i k' m';refine⟨?_,by simp[JN]⟩;split at he
    .rename_i s hs;have tz:=en hs w;by_cases Q7:b1=b'
     .subst Q7;rw[h1]at h2;injection h2 with h2;injection h2 with h2 h3;subst h2
      simp only[BEq.rfl,cz,bA]at he;subst he;rw[Op.equalIn];simp only[Sem.run_bind,run_underlying hu,Result.andThen_ok,tz];have e1:((⟨k,off,none⟩:Addr)==⟨k,MP,none⟩)=(off==MP):=by rw[Bool.eq_iff_iff];simp
      simp[sameAddr,e1]
     .have alM:(b1==b')=false:=by simpa using Q7
      simp only[alM,dk,cC]at he;split at he
      .rename_i o ho;split at he
       .rename_i o' Z5;split at he
        .rename_i hcc;injection he with he;subst he
         simp only[aV,Option.isSome_iff_exists]at hcc;obtain⟨⟨cs,hc⟩,⟨rJ,wA⟩⟩:=hcc;obtain⟨c,d1,e1,hk,_⟩:=hr.cells h1 ho hc;obtain⟨c',d2,e2,Cv,_⟩:=hr.cells h2 Z5 wA;have cx:k≠k':=by
          intro CA;subst CA;refine Q7 (hr.inj b1 b' o o' k m m' ho Z5 ?_ ?_ h1 h2);.cases o<;>simp[AO.cells?]at hc<;>trivial
          .cases o'<;>simp[AO.cells?]at wA<;>trivial
         have an7:(k==k')=false:=by simpa using cx
         rw[Op.equalIn];simp only[Sem.run_bind,run_underlying hu,Result.andThen_ok,tz];simp[sameAddr,cx,noView,viewAt,mayBeOne,stringish,World.frozen?,World.shape?,hk,Cv]
        .cases he
       .cases he
      .cases he
    .cases he
   .cases hy;injection he with he;subst he
    refine⟨?_,by simp[JN]⟩;rw[Op.equalIn];simp only[Sem.run_bind,run_underlying hu,Result.andThen_ok];rfl
   .cases he
  .cases hx;split at he
   .cases hy;injection he with he;subst he
    refine⟨?_,by simp[JN]⟩;rw[Op.equalIn];simp only[Sem.run_bind,run_underlying hu,Result.andThen_ok];rfl
   .cases he
  .cases hx;split at he
   .cases hy;injection he with he;subst he
    refine⟨?_,by simp[JN]⟩;rw[Op.equalIn];simp only[Sem.run_bind,run_underlying hu,Result.andThen_ok];rfl
   .cases he
  .cases he
 .rename_i e hu;obtain⟨rfl,O4⟩:=pU he;simp only[aV]at O4;rcases O4 with⟨h1,h2⟩|⟨h1,h2⟩
  .obtain⟨ad,l,c,rfl⟩:=Cc h1 hx;obtain⟨l',c',rfl⟩:=zy h2 hy;exact⟨by rw[Op.equalIn];simp only[Sem.run_bind,run_underlying hu,Result.andThen_ok];rfl,by simp[JN]⟩
  .obtain⟨l,c,rfl⟩:=zy h1 hx;obtain⟨ad,l',c',rfl⟩:=Cc h2 hy;exact⟨by rw[Op.equalIn];simp only[Sem.run_bind,run_underlying hu,Result.andThen_ok];rfl,by simp[JN]⟩
 .rename_i e e' hu;obtain⟨rfl,O4⟩:=pU he;simp only[aV]at O4;rcases O4 with⟨h1,h2⟩|⟨h1,h2⟩
  .obtain⟨k,rfl⟩:=A9 h1 hx;obtain rfl:=zF h2 hy;exact⟨by rw[Op.equalIn];simp only[Sem.run_bind,run_underlying hu,Result.andThen_ok];rfl,by simp[JN]⟩
  .obtain rfl:=zF h1 hx;obtain⟨k,rfl⟩:=A9 h2 hy;exact⟨by rw[Op.equalIn];simp only[Sem.run_bind,run_underlying hu,Result.andThen_ok];rfl,by simp[JN]⟩
 .rename_i e e' e'' hu;obtain⟨rfl,O4⟩:=pU he;simp only[aV]at O4;rcases O4 with⟨h1,h2⟩|⟨h1,h2⟩
  .obtain⟨f,b,c,rfl⟩:=BR h1 hx;obtain rfl:=zk h2 hy;exact⟨by rw[Op.equalIn];simp only[Sem.run_bind,run_underlying hu,Result.andThen_ok];rfl,by simp[JN]⟩
  .obtain rfl:=zk h1 hx;obtain⟨f,b,c,rfl⟩:=BR h2 hy;exact⟨by rw[Op.equalIn];simp only[Sem.run_bind,run_underlying hu,Result.andThen_ok];rfl,by simp[JN]⟩
 .rename_i e hu;obtain⟨rfl,O4⟩:=pU he;simp only[aV]at O4;rcases O4 with⟨h1,h2⟩|⟨h1,h2⟩
  .obtain⟨t',v,rfl⟩:=AN h1 hx;obtain rfl:=zi h2 hy;exact⟨by rw[Op.equalIn];simp only[Sem.run_bind,run_underlying hu,Result.andThen_ok];rfl,by simp[JN]⟩
  .obtain rfl:=zi h1 hx;obtain⟨t',v,rfl⟩:=AN h2 hy;exact⟨by rw[Op.equalIn];simp only[Sem.run_bind,run_underlying hu,Result.andThen_ok];rfl,by simp[JN]⟩
 .cases he
variable{P:Program}{op:BinOp}{u':Value}{x y:Operand}
theorem jC{x:Value}{k:IntKind}{n:Int}(h:eD a=some (k,n))(hv:VR r a x):x= .int k n:=by
 unfold eD at h;split at h
 .cases hv;split at h;.injection h with h;injection h with h1 h2;subst h1;subst h2;rfl
  .cases h
 .cases h
theorem k9{x:Value}{n:Int}(h:lK a=some n)(hv:VR r a x):∃k,x= .int k n:=by
 unfold lK at h;split at h;.cases hv;cases h;exact⟨_,rfl⟩
 .cases h
theorem zA{v:Value}(ho:JN u v)(w:World):(eqGuard op t x y u v).run P w= .ok () w:=by
 unfold eqGuard;obtain⟨h1,h2,_⟩:=ho;cases op<;>simp only[fj,fB,cz,dk,cC,Sem.run_pure]<;>try rfl
 all_goals
  split;.exact absurd ⟨rfl,rfl⟩ h1
  .exact absurd rfl (h2 _)
  .rfl
theorem vH{v:Value}(ho:JN u v)(h:(Op.equalIn (9999+1) t u v).run P w= .ok q w):
 (binOp .eql t u v).run P w= .ok (.bool q) w/\(binOp .neq t u v).run P w= .ok (.bool (!q)) w:=by
 obtain⟨_,_,h3,h4,h5,h6⟩:=ho;have e1:binOp .eql t u v=(Op.equal t u v>>=λb=>pure (.bool b)):=by unfold binOp;split<;>first|rfl|(exfalso;first|exact h3 _ _ rfl|exact h4 _ rfl|exact h5 _ _ rfl|exact h6 _ _ _ rfl|simp_all)
 have e2:binOp .neq t u v=(Op.equal t u v>>=λb=>pure (.bool (!b))):=by unfold binOp;split<;>first|rfl|(exfalso;first|exact h3 _ _ rfl|exact h4 _ rfl|exact h5 _ _ rfl|exact h6 _ _ _ rfl|simp_all)
 have e3:(Op.equal t u v).run P w= .ok q w:=h;rw[e1,e2];constructor<;>simp[e3]
theorem rA(P:Program)(hr:HR r h nx w0 w){b v:AV}(ha:VR r a u)(hb:VR r b u')
 (he:iG P h op t x y a b=some v):∃z,((do eqGuard op t x y u u';binOp op t u u':Sem Value)).run P w= .ok z w/\VR r v z:=by
 have key:pG P h op t a b=some v->∃z,((do eqGuard op t x y u u';binOp op t u u':Sem Value)).run P w= .ok z w/\VR r v z:=by
  intro he;unfold pG at he;split at he
  .split at he
   .rename_i q hq;injection he with he;subst he
    obtain⟨h1,h2⟩:=AL P hr ha hb hq 9999;exact⟨_,by simp only[Sem.run_bind,zA h2,Result.andThen_ok,(vH h2 h1).1],.g _⟩
   .cases he
  .split at he
   .rename_i q hq;injection he with he;subst he
    obtain⟨h1,h2⟩:=AL P hr ha hb hq 9999;exact⟨_,by simp only[Sem.run_bind,zA h2,Result.andThen_ok,(vH h2 h1).2],.g _⟩
   .cases he
  .cases he
 unfold iG at he;split at he
 .rename_i p hp;split at he
  .rename_i p' L7;obtain rfl:=js _ _ _ hp ha;obtain rfl:=js _ _ _ L7 hb;unfold ke at he;split at he
   .rename_i z hz;injection he with he;subst he
    exact⟨z,iC P _ _ hz w,.g z⟩
   .cases he
  .exact key he
 .exact key he
theorem JT(P:Program)(hr:HR r h nx w0 w){b v:AV}(ha:VR r a u)(hb:VR r b u')
 (he:cZ P h op t x y a b=some v):∃z,((do eqGuard op t x y u u';binOp op t u u':Sem Value)).run P w= .ok z w/\VR r v z:=by
 unfold cZ at he;split at he
 .rename_i k m hk;split at he
  .rename_i k' n Cv;split at he
   .rename_i CA;subst CA;split at he
    .rename_i z hz;injection he with he;subst he
     obtain rfl:=jC hk ha;obtain rfl:=jC Cv hb;unfold ts at hz;split at hz
     all_goals first|(injection hz with hz;subst hz)|cases hz
     .exact⟨_,by simp[eqGuard,binOp,Op.intArith,gT],.g _⟩
     .exact⟨_,by simp[eqGuard,binOp,Op.intArith,gT],.g _⟩
     .exact⟨_,by simp[eqGuard,binOp,Op.intCmp],.g _⟩
     .exact⟨_,by simp[eqGuard,binOp,Op.intCmp],.g _⟩
     .exact⟨_,by simp[eqGuard,binOp,Op.intCmp],.g _⟩
     .exact⟨_,by simp[eqGuard,binOp,Op.intCmp],.g _⟩
     .exact⟨_,by simp[eqGuard,binOp,Op.intCmp],.g _⟩
     .exact⟨_,by simp[eqGuard,binOp,Op.intCmp],.g _⟩
    .exact rA P hr ha hb he
   .exact rA P hr ha hb he
  .exact rA P hr ha hb he
 .exact rA P hr ha hb he
variable{cap size:Nat}{jn:Option Value}{mi:Int}
theorem wY{r:dG}:∀(cs:List AV) (vs:List Value) (l:List UInt8),nG cs=some l->eM r cs vs->∃ns:List Int,vs=ns.map (Value.int .u8)/\l=ns.map λn=>UInt8.ofNat n.toNat
 |[],vs,l,h,hv=>by cases hv;simp only[nG,bA]at h;subst h;exact⟨[],rfl,rfl⟩
 |a::cs,vs,l,h,hv=>by
  cases hv with
  |cons hv ht=>
  unfold nG at h;split at h;.rename_i h1;cases h1
  .rename_i n as' h1;injection h1 with h1 h2;subst h1;subst h2
   split at h
   .rename_i q hq;injection h with h;subst h
    obtain⟨ns,rfl,rfl⟩:=wY _ _ q hq ht;cases hv;exact⟨n::ns,rfl,rfl⟩
   .cases h
  .cases h
theorem foldl_push(ns:List Int):∀(s:ByteArray),ns.foldl (λr n=>r.push (UInt8.ofNat n.toNat)) s=⟨s.data++(ns.map λn=>UInt8.ofNat n.toNat).toArray⟩:=by
 induction ns with
 |nil=>intro s;cases s;simp
 |cons n ns ih=>
  intro s;simp only[BB,ih]
  congr 1
  show s.data.push _++_=_;simp
theorem zc(P:Program)(hr:HR r h nx w0 w){s d:TypeId}{off len m:Nat}(hb:r b=some (k,m)){v:AV}(he:Bb P h s d b off len=some v):
 ∃z,(convert s d (.slice (some ⟨k,off,none⟩) len cap)).run P w= .ok z w/\VR r v z:=by
 unfold Bb at he;split at he
 .rename_i e hs;split at he
  .rename_i hd;split at he
   .rename_i hu;split at he
    .rename_i cs hc;split at he
     .rename_i l hl;injection he with he;subst he
      obtain⟨vs,ti,bP,jo,_⟩:=mL hr hb hc;obtain⟨ns,rfl,rfl⟩:=wY cs vs l hl ti;have cK:=run_loadCells_list (P:=P) w ⟨k,off,none⟩ _ jo;rw[bP]at cK;refine⟨_,?_,.g _⟩;rw[run_convert_bytes_string w s d e _ len cap hs hu hd,run_bytesToString w _ len cap ns cK,foldl_push];simp[ByteArray.empty,ByteArray.emptyWithCapacity];rfl
     .cases he
    .cases he
   .cases he
  .cases he
 .cases he
theorem G8(P:Program)(hr:HR r h nx w0 w){s d:TypeId}{off m:Nat}(hb:r b=some (k,m)){v:AV}(he:vM P h s d b off=some v):
 ∃z,(convert s d (.pointer (some ⟨k,off,none⟩))).run P w= .ok z w/\VR r v z:=by
 unfold vM at he;split at he
 .rename_i t hs;split at he
  .rename_i hd;split at he
   .rename_i n hn;split at he
    .rename_i cs e ho;split at he
     .rename_i db;injection he with he;subst he
      obtain⟨c,hk,xV⟩:=hr.obj b _ k m ho hb;have bP:=xV.length;refine⟨_,?_,.ptr hb⟩;have aiK:¬c.length<=off:=ah;simp[convert,run_underlying hs,run_underlying hd,Conv.unsafePointer,Conv.seenAt,viewAt,cellsIn,World.shape?,hk,en hn,aiK]
     .cases he
    .cases he
   .cases he
  .cases he
 .rename_i hs;split at he
  .rename_i u hd;split at he
   .rename_i n hn;split at he
    .rename_i cs e ho;split at he
     .rename_i hl;injection he with he;subst he
      obtain⟨c,hk,xV⟩:=hr.obj b _ k m ho hb;have bP:=xV.length;refine⟨_,?_,.ptr hb⟩;rw[bP]at hl;simp[convert,run_underlying hs,run_underlying hd,Conv.unsafePointer,Conv.seenAt,viewAt,World.shape?,hk,en hn,variablesAt,hl]
     .cases he
    .cases he
   .cases he
  .cases he
 .cases he
theorem Hu(P:Program)(hr:HR r h nx w0 w){s d:TypeId}{v:AV}{x:Value}(hx:VR r a x)(he:nD P h s d a=some v):
 ∃z,(convert s d x).run P w= .ok z w/\VR r v z:=by
 unfold nD at he;split at he
 .cases hx;split at he
  .rename_i z hz;injection he with he;subst he
   exact⟨z,iC P _ _ hz w,.g z⟩
  .cases he
 .cases hx with|sl hb=>exact zc P hr hb he
 .cases hx with|mD hb hn=>exact zc P hr hb he
 .cases hx with|ptr hb=>exact G8 P hr hb he
 .cases he
theorem nc{i:Int}{hi:Nat}(h:ma i hi=some n):0<=i/\i<=hi/\i.toNat=n:=by
 unfold ma at h;split at h
 .split at h
  .injection h with h;subst h
   rename_i m hm;exact⟨gZ m,Af.2 hm,rfl⟩
  .cases h
 .cases h
theorem wJ{len:Nat}{i:Int}(h:nj len i=some n):0<=i/\i<len/\i.toNat=n:=by
 unfold nj at h;split at h
 .split at h
  .injection h with h;subst h
   rename_i m hm;exact⟨gZ m,rj.2 hm,rfl⟩
  .cases h
 .cases h
theorem qg{k:IntKind}{i:Int}{y:Nat}{c:BoundsCode}(h0:0<=i)(h1:i<=y):(Instr.sliceBound (.int k i) y c).run P w= .ok i.toNat w:=by simp[Instr.sliceBound,asIntOf,h0,h1]
def UR(r:dG)(a:Option AV)(x:Option Value):Prop:=match a,x with
 |none,none=>True
 |some a,some x=>VR r a x
 |_,_=>False
theorem eV{d hi:Nat}{a:Option AV}{x:Option Value}(hx:UR r a x)(h:fe d hi a=some n):
 (x=none/\n=d)\/(n<=hi/\∃v,x=some v/\∀(y:Nat) c (w:World),hi<=y->(Instr.sliceBound v y c).run P w= .ok n w):=by
 unfold fe at h;split at h
 .injection h with h
  cases x with
  |none=>exact .inl ⟨rfl,h.symm⟩
  |some _=>exact hx.elim
 .split at h
  .rename_i v i rX;cases x with
   |none=>exact hx.elim
   |some u=>obtain⟨k,rfl⟩:=k9 rX hx;obtain⟨h0,h1,h2⟩:=nc h;refine .inr ⟨ah,_,rfl,λy c w hy=>?_⟩;rw[qg h0 ah,h2]
  .cases h
theorem kC{isS:Bool}{len l h:Nat}{lo hi:Option Value}
 (hh:(hi=none/\h=len)\/(∃v,hi=some v/\∀c (w:World),(Instr.sliceBound v cap c).run P w= .ok h w))
 (hl:(lo=none/\l=0)\/(∃v,lo=some v/\∀c (w:World),(Instr.sliceBound v h c).run P w= .ok l w)):
 (Instr.sliceBounds isS len cap lo hi none).run P w= .ok (l,h,cap) w:=by
 unfold Instr.sliceBounds;rcases hh with⟨rfl,rfl⟩|⟨v,rfl,hh⟩<;>rcases hl with⟨rfl,rfl⟩|⟨u,rfl,hl⟩<;>simp_all
theorem iP{e:TypeId}(hu:P.underlying t=some (.slice e))(hs:cN P e=some size){len l h:Nat}{lo hi:Option Value}
 (hb:(Instr.sliceBounds true len cap lo hi none).run P w= .ok (l,h,cap) w) (ad:Option Addr):
 (Instr.sliceAt t (.slice ad len cap) lo hi none).run P w= .ok (.slice (if cap=l then ad else ad.map (·.add (l*size))) (h-l) (cap-l)) w:=by
 simp[Instr.sliceAt,Instr.slice,run_underlying hu,hb,en hs]
theorem F7(P:Program){v:AV}{x:Value}{lo hi:Option AV}{rX:Option Value}(hx:VR r a x)(je:UR r lo jn)(C4:UR r hi rX)
 (he:eS P t a lo hi=some v) (w:World):∃z,(Instr.sliceAt t x jn rX none).run P w= .ok z w/\VR r v z:=by
 unfold eS at he;split at he
 .rename_i b off len cap;cases hx with
  |sl hb=>
  rename_i k n;split at he
  .rename_i e hu;split at he
   .rename_i size hs;unfold sv at he;split at he
    .rename_i h hh;split at he
     .rename_i l hl;injection he with he;subst he
      have h1:=eV (P:=P) C4 hh;have h2:=eV (P:=P) je hl;have nT:=kC (P:=P) (isS:=true) (len:=len) (cap:=cap) (l:=l) (h:=h) (lo:=jn) (hi:=rX) (w:=w)
       (h1.imp id λ⟨_,v,e,f⟩=>⟨v,e,λc w=>f cap c w (an _)⟩)
       (h2.imp id λ⟨_,v,e,f⟩=>⟨v,e,λc w=>f h c w (an _)⟩)
      refine⟨_,iP hu hs nT _,?_⟩;by_cases hc:cap=l;.simp only[hc,cz];exact .sl hb
      .simp only[hc,cC,dC,iT];exact .sl hb
     .cases he
    .cases he
   .cases he
  .cases he
 .rename_i b off j len;cases hx with
  |mD hb hn=>
  rename_i k n;split at he
  .rename_i e hu;split at he
   .rename_i size hs;unfold aa8 at he;split at he
    .rename_i h hh;split at he
     .rename_i l hl;have h1:=eV (P:=P) C4 hh;have h2:=eV (P:=P) je hl;have hle:h<=len:=by rcases h1 with⟨_,rfl⟩|⟨h1,_⟩<;>omega
      have hlh:l<=h:=by rcases h2 with⟨_,rfl⟩|⟨h2,_⟩<;>omega
      have nT:=kC (P:=P) (isS:=true) (len:=len) (cap:=n-j) (l:=l) (h:=h) (lo:=jn) (hi:=rX) (w:=w)
       (h1.imp id λ⟨_,v,e,f⟩=>⟨v,e,λc w=>f _ c w ah⟩)
       (h2.imp id λ⟨_,v,e,f⟩=>⟨v,e,λc w=>f h c w (an _)⟩)
      refine⟨_,iP hu hs nT _,?_⟩;split at he
      .rename_i db;injection he with he;subst he
       have hc:¬n-j=l:=ah;simp only[hc,cC,dC,iT];rw[Nat.sub_sub];exact .mD hb ah
      .split at he
       .rename_i h0;subst h0;injection he with he;subst he
        have:(if n-j=0 then some (⟨k,off,none⟩:Addr)else(some ⟨k,off,none⟩:Option Addr).map (·.add (0*size)))=some ⟨k,off,none⟩:=by simp[Addr.add]
        rw[this];exact .mD hb ah
       .injection he with he;subst he
        have:h-l=0:=ah;rw[this];by_cases hc:n-j=l;.simp only[hc,cz];exact .sle
        .simp only[hc,cC,dC];exact .sle
     .cases he
    .cases he
   .cases he
  .cases he
 .cases hx with
  |sle=>
  rename_i ad c;split at he
  .rename_i e hu;split at he
   .rename_i size hs;unfold abD at he;split at he
    .rename_i h hh;split at he
     .rename_i l hl;injection he with he;subst he
      have h1:=eV (P:=P) C4 hh;have h2:=eV (P:=P) je hl;have hle:h=0:=by rcases h1 with⟨_,rfl⟩|⟨h1,_⟩<;>omega
      have hlh:l=0:=by rcases h2 with⟨_,rfl⟩|⟨h2,_⟩<;>omega
      subst hle;subst hlh;have nT:=kC (P:=P) (isS:=true) (len:=0) (cap:=c) (l:=0) (h:=0) (lo:=jn) (hi:=rX) (w:=w)
       (h1.imp id λ⟨_,v,e,f⟩=>⟨v,e,λc w=>f _ c w ah⟩)
       (h2.imp id λ⟨_,v,e,f⟩=>⟨v,e,λc w=>f _ c w (an _)⟩)
      refine⟨_,iP hu hs nT _,?_⟩;by_cases hc:c=0;.simp only[hc,cz];exact .sle
      .simp only[hc,cC,dC];exact .sle
     .cases he
    .cases he
   .cases he
  .cases he
 .rename_i len cs;split at he
  .rename_i e hu;split at he
   .rename_i size hs;unfold vq at he;split at he
    .rename_i h hh;split at he
     .rename_i l hl;have h1:=eV (P:=P) C4 hh;have h2:=eV (P:=P) je hl;have hle:h<=len:=by rcases h1 with⟨_,rfl⟩|⟨h1,_⟩<;>omega
      have hlh:l<=h:=by rcases h2 with⟨_,rfl⟩|⟨h2,_⟩<;>omega
      have nT:=λ(cap:Nat) (hc:len<=cap)=>kC (P:=P) (isS:=true) (len:=len) (cap:=cap) (l:=l) (h:=h) (lo:=jn) (hi:=rX) (w:=w)
       (h1.imp id λ⟨_,v,e,f⟩=>⟨v,e,λc w=>f _ c w ah⟩)
       (h2.imp id λ⟨_,v,e,f⟩=>⟨v,e,λc w=>f h c w (an _)⟩)
      split at he
      .rename_i q1 hq1;split at he
       .rename_i q2 hq2;injection he with he;subst he
        obtain⟨rfl,Py⟩:=r9 _ _ _ hq1;obtain⟨rfl,hd2⟩:=qj _ _ _ hq2;cases hx with
        |Cx=>obtain rfl:h=0:=ah;obtain rfl:l=0:=ah;exact⟨_,iP hu hs (nT 0 (an _)) _,by simp;exact .Cx⟩
        |Br=>
         rename_i ad c;obtain rfl:h=0:=ah;obtain rfl:l=0:=ah;refine⟨_,iP hu hs (nT c (aY _)) _,?_⟩;by_cases hc:c=0;.simp[hc];exact .Br
         .simp[hc];exact .Br
        |fz hz hc hv=>
         rename_i k off cap vs;refine⟨_,iP hu hs (nT cap hc) _,?_⟩;by_cases xy:cap=l;.have h0:h-l=0:=ah;simp only[xy,cz,h0];simp only[eN,dv];exact .Br
         .simp only[xy,cC,dC,iT];refine .fz (vs:=(vs.drop (l*size)).take ((h-l)*size)) (λi v hi=>?_) ah ((hv.drop _).take _);rw[eE]at hi;split at hi
          .rw[gV]at hi;have:=hz _ v hi
           rwa[<-jk]at this
          .cases hi
       .cases he
      .cases he
     .cases he
    .cases he
   .cases he
  .cases he
 .rename_i b off;cases hx with
  |ptr hb=>
  rename_i k m;split at he
  .rename_i n e hu;split at he
   .rename_i size hs;unfold sv at he;split at he
    .rename_i h hh;split at he
     .rename_i l hl;injection he with he;subst he
      have h1:=eV (P:=P) C4 hh;have h2:=eV (P:=P) je hl;have nT:=kC (P:=P) (isS:=false) (len:=n) (cap:=n) (l:=l) (h:=h) (lo:=jn) (hi:=rX) (w:=w)
       (h1.imp id λ⟨_,v,e,f⟩=>⟨v,e,λc w=>f n c w (an _)⟩)
       (h2.imp id λ⟨_,v,e,f⟩=>⟨v,e,λc w=>f h c w (an _)⟩)
      refine⟨.slice (some (if n=l then⟨k,off,none⟩else(⟨k,off,none⟩:Addr).add (l*size))) (h-l) (n-l),?_,?_⟩;.simp[Instr.sliceAt,Instr.sureAddr,run_underlying hu,nT,en hs]
      .by_cases hc:n=l;.simp only[hc,cz];exact .sl hb
       .simp only[hc,cC,iT];exact .sl hb
     .cases he
    .cases he
   .cases he
  .cases he
 .cases hx;unfold slG at he;have key:∀(a:Option AV) (x:Option Value) (g:Option Value),PV a=some g->UR r a x->x=g:=by
   intro a x g hg hv;unfold PV at hg;split at hg
   .injection hg with hg;subst hg
    cases x with
    |none=>rfl
    |some _=>exact hv.elim
   .split at hg
    .rename_i u hu;injection hg with hg;subst hg
     cases x with
     |none=>exact hv.elim
     |some y=>rw[js _ _ _ hu hv]
    .cases hg
  split at he
  .rename_i l hl;split at he
   .rename_i h hh;split at he
    .rename_i z hz;injection he with he;subst he
     obtain rfl:=key _ _ _ hl je;obtain rfl:=key _ _ _ hh C4;exact⟨z,iC P _ _ hz w,.g z⟩
    .cases he
   .cases he
  .cases he
 .cases he
theorem DQ{i:Int}{hi:Nat}(h:ma i hi=some n):n<=hi:=by obtain⟨_,_,_⟩:=nc h;omega
theorem oi{k1 k2:IntKind}{len l h m:Nat}{hi:Int}{lo:Option Value}
 (hm:ma mi cap=some m) (hh:ma hi m=some h)
 (hl:(lo=none/\l=0)\/(∃v,lo=some v/\∀c (w:World),(Instr.sliceBound v h c).run P w= .ok l w)):
 (Instr.sliceBounds true len cap lo (some (.int k1 hi)) (some (.int k2 mi))).run P w= .ok (l,h,m) w:=by
 obtain⟨a1,a2,a3⟩:=nc hm;obtain⟨b1,b2,b3⟩:=nc hh;unfold Instr.sliceBounds;rcases hl with⟨rfl,rfl⟩|⟨u,rfl,hl⟩<;>simp[qg a1 a2,qg b1 b2,a3,b3]<;>simp_all
theorem sJ{m h:Nat}{hi:AV}(hh:fe 0 m (some hi)=some h):∃i,lK hi=some i/\ma i m=some h:=by
 unfold fe at hh;simp only at hh;split at hh;.rename_i i rX;exact⟨i,rX,hh⟩
 .cases hh
theorem C3(P:Program){v hi mx:AV}{x rX mx':Value}{lo:Option AV}(hx:VR r a x)(je:UR r lo jn)(C4:VR r hi rX)(hmx:VR r mx mx')
 (he:mz P t a lo hi mx=some v) (w:World):∃z,(Instr.sliceAt t x jn (some rX) (some mx')).run P w= .ok z w/\VR r v z:=by
 unfold mz at he;split at he
 .rename_i e hu;split at he
  .rename_i size hs;split at he
   .rename_i mi hmi;obtain⟨k2,rfl⟩:=k9 hmi hmx;have slk:∀{b off cap len k n:Nat},r b=some (k,n)->Lw size b off cap mi lo hi=some v->
     ∃z,(Instr.sliceAt t (.slice (some ⟨k,off,none⟩) len cap) jn (some rX) (some (.int k2 mi))).run P w= .ok z w/\VR r v z:=by
     intro b off cap len k n hb he;unfold Lw at he;split at he
     .rename_i m hm;split at he
      .rename_i h hh;split at he
       .rename_i l hl;injection he with he;subst he
        obtain⟨i,h1,h2⟩:=sJ hh;obtain⟨k1,rfl⟩:=k9 h1 C4;have h3:=eV (P:=P) je hl;have nT:=oi (P:=P) (k1:=k1) (k2:=k2) (len:=len) (lo:=jn) (w:=w) hm h2 (h3.imp id λ⟨_,v,e,f⟩=>⟨v,e,λc w=>f h c w (an _)⟩);refine⟨.slice (if m=l then some ⟨k,off,none⟩else(some (⟨k,off,none⟩:Addr)).map (·.add (l*size))) (h-l) (m-l),by simp[Instr.sliceAt,Instr.slice,run_underlying hu,nT,en hs],?_⟩;by_cases hc:m=l;.simp only[hc,cz];exact .sl hb
        .simp only[hc,cC,dC,iT];exact .sl hb
       .cases he
      .cases he
     .cases he
    have ane:∀{b off len cap k n:Nat},len<=cap->r b=some (k,n)->Lw size b off len mi lo hi=some v->
     ∃z,(Instr.sliceAt t (.slice (some ⟨k,off,none⟩) len cap) jn (some rX) (some (.int k2 mi))).run P w= .ok z w/\VR r v z:=by
     intro b off len cap k n hlc hb he;unfold Lw at he;split at he
     .rename_i m hm;split at he
      .rename_i h hh;split at he
       .rename_i l hl;injection he with he;subst he
        obtain⟨i,h1,h2⟩:=sJ hh;obtain⟨k1,rfl⟩:=k9 h1 C4;have h3:=eV (P:=P) je hl;have hm':ma mi cap=some m:=by
         obtain⟨a1,a2,a3⟩:=nc hm;cases mi with
         |ofNat q=>simp only[ma]at hm⊢;split at hm<;>simp_all;omega
         |negSucc q=>simp[ma]at hm
        have nT:=oi (P:=P) (k1:=k1) (k2:=k2) (len:=len) (lo:=jn) (w:=w) hm' h2 (h3.imp id λ⟨_,v,e,f⟩=>⟨v,e,λc w=>f h c w (an _)⟩);refine⟨.slice (if m=l then some ⟨k,off,none⟩else(some (⟨k,off,none⟩:Addr)).map (·.add (l*size))) (h-l) (m-l),by simp[Instr.sliceAt,Instr.slice,run_underlying hu,nT,en hs],?_⟩;by_cases hc:m=l;.simp only[hc,cz];exact .sl hb
        .simp only[hc,cC,dC,iT];exact .sl hb
       .cases he
      .cases he
     .cases he
    have fzk:∀{base:Option Addr} {len cap:Nat} {cs:List AV} {vs:List Value},len<=cap->eM r cs vs->(len=0/\cs=[]\/∃k off,base=some ⟨k,off,none⟩/\∀i v,vs[i]?=some v->r.z k (off+i)=some v)->ZC size len cs mi lo hi=some v->
     ∃z,(Instr.sliceAt t (.slice base len cap) jn (some rX) (some (.int k2 mi))).run P w= .ok z w/\VR r v z:=by
     intro base len cap cs vs hlc hv ajV he;unfold ZC at he;split at he
     .rename_i m hm;split at he
      .rename_i h hh;split at he
       .rename_i l hl;obtain⟨i,h1,h2⟩:=sJ hh;obtain⟨k1,rfl⟩:=k9 h1 C4;have h3:=eV (P:=P) je hl;have hm':ma mi cap=some m:=by
         cases mi with
         |ofNat q=>simp only[ma]at hm⊢;split at hm<;>simp_all;omega
         |negSucc q=>simp[ma]at hm
        have nT:=oi (P:=P) (k1:=k1) (k2:=k2) (len:=len) (lo:=jn) (w:=w) hm' h2 (h3.imp id λ⟨_,v,e,f⟩=>⟨v,e,λc w=>f h c w (an _)⟩);have Gu:=DQ hm;have hhm:=DQ h2;have hlh:l<=h:=by rcases h3 with⟨_,rfl⟩|⟨h3,_⟩<;>omega
        refine⟨.slice (if m=l then base else base.map (·.add (l*size))) (h-l) (m-l),by simp[Instr.sliceAt,Instr.slice,run_underlying hu,nT,en hs],?_⟩;split at he
        .rename_i hc;injection he with he;subst he
         have e1:h-l=0:=ah;have e2:m-l=0:=ah;rw[aw hc,e1,e2];cases base with
         |none=>exact .ME
         |some a=>exact .LZ
        .rename_i hc;rw[ak hc];split at he
         .rename_i q1 hq1;split at he
          .rename_i q2 hq2;injection he with he;subst he
           obtain⟨rfl,Py⟩:=r9 _ _ _ hq1;obtain⟨rfl,hd2⟩:=qj _ _ _ hq2;rcases ajV with⟨h0,rfl⟩|⟨k,off,rfl,hz⟩;.omega
           .simp only[dC,iT];refine .fz (vs:=(vs.drop (l*size)).take ((h-l)*size)) (λi v hi=>?_) ah ((hv.drop _).take _);rw[eE]at hi;split at hi
            .rw[gV]at hi;have:=hz _ v hi
             rwa[<-jk]at this
            .cases hi
          .cases he
         .cases he
       .cases he
      .cases he
     .cases he
    split at he
    .cases hx with
     |sl hb=>exact slk hb he
    .cases hx with
     |mD hb hn=>exact ane ah hb he
    .cases hx with
     |Cx=>exact fzk (an _) .nil (.inl ⟨rfl,rfl⟩) he
     |Br=>exact fzk (aY _) .nil (.inl ⟨rfl,rfl⟩) he
     |fz hz hc hv=>exact fzk hc hv (.inr ⟨_,_,rfl,hz⟩) he
    .cases hx with
     |ME=>exact fzk (an _) .nil (.inl ⟨rfl,rfl⟩) he
     |LZ=>exact fzk (an _) .nil (.inl ⟨rfl,rfl⟩) he
    .cases hx with
     |sle=>exact fzk (aY _) .nil (.inl ⟨rfl,rfl⟩) he
    .cases hx;exact fzk (an _) .nil (.inl ⟨rfl,rfl⟩) he
    .cases he
   .cases he
  .cases he
 .cases he
variable{kd:TypeDesc}{kt:TypeId}{z:Value}
theorem Ck(off:Nat):∀(us:List Value) (j:Nat) (cells:Array Value),off+j+us.length<=cells.size->
 ((us.zipIdx j).foldl (λcs (x:Value×Nat)=>cs.setIfInBounds (off+x.2) x.1) cells).toList=cells.toList.take (off+j)++us++cells.toList.drop (off+j+us.length)
 |[],j,cells,_=>bL
 |u::us,j,cells,h=>by simp only[bD]at h;rw[List.zipIdx_cons,BB,Ck off us (j+1) _ fE];simp only[Array.toList_setIfInBounds];have:=list_seg_step cells.toList (off+j) u us fE;rw[jk off j 1]at this;rw[this];simp
theorem sQ{r:dG}{place:Nat->Option (Nat×Nat)}{ae:Operand->AV}{ev:Operand->Value}:∀(ps:List (Nat×Operand)) (cs out:List AV) (vs:Array Value),
 fo place ae ps cs=some out->eM r cs vs.toList->(∀x∈ps,VR r (ae x.2) (ev x.2))->
 ∃us:Array Value,Instr.fill place vs (ps.map λp=>(p.1,ev p.2))=some us/\eM r out us.toList
 |[],cs,out,vs,h,hv,_=>by simp only[fo,bA]at h;subst h;exact⟨vs,rfl,hv⟩
 |x::ps,cs,out,vs,h,hv,hx=>by
  simp only[fo]at h;split at h
  .rename_i q hq;unfold apart at hq;split at hq;.cases hq
   .rename_i p hp;split at hq;.cases hq
    .rename_i ws hws;split at hq
     .rename_i bP;obtain⟨rfl,hle⟩:=sH _ _ _ _ hq;have hc:=uR hws (hx x bL);have xy:=hc.length;have Wk:=hv.length;simp only[eU]at xy Wk;have Ld:=Ck p.1 (ev x.2).cells.toList 0 vs fE;obtain⟨us,h1,h2⟩:=sQ ps _ out ((ev x.2).cells.zipIdx.foldl (λcs (x:Value×Nat)=>cs.setIfInBounds (p.1+x.2) x.1) vs) h
       (by rw[<-Array.foldl_toList,Array.toList_zipIdx,Ld];simp only[dD];refine((hv.take _).append hc).append ?_;rw[show(ev x.2).cells.toList.length=ws.length by simp[xy]];exact hv.drop _)
       (λy hy=>hx y (by simp[hy]))
      refine⟨us,?_,h2⟩;simp only[dQ,Instr.fill,hp];rw[ak];.exact h1
      .have e1:(ev x.2).cells.size=p.2:=ah;have e2:¬p.1+(ev x.2).cells.size>vs.size:=ah;simp[e1];omega
     .cases hq
  .cases h
theorem It{α:Type}(l:List α):∀(n i:Nat),i<n*l.length->(fK n l)[i]?=l[i%l.length]?
 |0,i,h=>by simp at h
 |n+1,i,h=>by
  simp only[fK];by_cases hi:i<l.length;.rw[cj hi,lV hi]
  .rw[dh ah,It l n (i-l.length) (by rw[mw]at h;omega)]
   congr 1
   rw[<-Nat.mod_eq_sub_mod ah]
theorem ug(z:Array Value)(c m:Nat)(hm:m=c*z.size):((Array.range m).map λi=>z[i%z.size]!)=(fK c z.toList).toArray:=by
 subst hm;apply An;apply nM;intro i;by_cases hi:i<c*z.size
 .have hz:0<z.size:=by
   rcases qd z.size with h0|h0;.rw[h0]at hi;simp at hi
   .exact h0
  have akx:i%z.size<z.size:=Nat.mod_lt _ hz;have:=It z.toList c i (by simpa using hi);simp only[eU]at this;rw[this];simp[hi,akx]
 .have:=tS z.toList c;simp only[eU]at this;rw[dR fE,dR (by simp only[this];omega)]
theorem zu{k:AV}{x y:Value}(h:xp kd k a=some q)(hx:VR r k x)(hy:VR r a y):Instr.sameNow kd x y=some q:=by
 unfold xp at h;split at h
 .split at h;.cases hx;cases hy;exact h
  .cases h
 .cases h
theorem qX{r:dG}{kd:TypeDesc}{k:AV}{x:Value}(hx:VR r k x):∀(es:List (AV×AV×Nat)) (ms:List MapEntry) (i:Nat) (q:Option (Nat×AV)),iF kd k es i=some q->vw r es ms->
 (q=none/\Instr.findNow kd x ms i=some none)\/(∃j v u,q=some (j,v)/\Instr.findNow kd x ms i=some (some (j,u))/\VR r v u/\i<=j/\∃e,ms[j-i]?=some e/\Instr.sameNow kd x e.key=some true)
 |[],ms,i,q,h,hm=>by cases hm;simp only[iF,bA]at h;subst h;exact .inl ⟨rfl,rfl⟩
 |e::es,ms,i,q,h,hm=>by
  cases hm with
  |cons hk hv ht=>
  simp only[iF]at h;split at h
  .rename_i hke;injection h with h;subst h
   have:=zu hke hx hk;refine .inr ⟨i,_,_,rfl,by simp only[Instr.findNow,this],hv,an _,_,by simp;rfl,this⟩
  .rename_i hke;have:=zu hke hx hk;rcases qX hx es _ (i+1) q h ht with⟨h1,h2⟩|⟨j,v,u,h1,h2,h3,h4,e,h5,h6⟩
   .exact .inl ⟨h1,by simp only[Instr.findNow,this];exact h2⟩
   .refine .inr ⟨j,v,u,h1,by simp only[Instr.findNow,this];exact h2,h3,ah,e,?_,h6⟩;have:j-i=(j-(i+1))+1:=ah;rw[this];simpa using h5
  .cases h
theorem run_checkKey(hk:P.underlying kt=some kd)(nR:nP kd=true)(b:Bool)(v:Value)(w:World):(Instr.checkKey b 10000 kt v).run P w= .ok () w:=by rw[show(10000:Nat)=9999+1 from rfl,Instr.checkKey];simp only[Sem.run_bind,run_underlying hk,Result.andThen_ok];cases kd<;>simp[nP]at nR<;>rfl
theorem run_findKey(hk:P.underlying kt=some kd){v:Value}{ms:List MapEntry}{q:Option (Nat×Value)}(h:Instr.findNow kd v ms 0=some q)(w:World):
 (Instr.findKey kt v ms).run P w= .ok q w:=by
 simp[Instr.findKey,run_underlying hk,h]
theorem HU{ok:Bool}{q:Option (Nat×AV)}{v:AV}{p:Option (Nat×Value)}(h:found z ok (some q)=some v)
 (hq:(q=none/\p=none)\/(∃j v u,q=some (j,v)/\p=some (j,u)/\VR r v u)):
 VR r v (if ok then .tuple #[(match p with|some x=>x.2|none=>z),.bool p.isSome]else(match p with|some x=>x.2|none=>z)):=by
 rcases hq with⟨rfl,rfl⟩|⟨j,a,u,rfl,rfl,hv⟩
 .simp only[found,bA]at h;subst h;cases ok;.exact .g _
  .exact .dN (.cons (.g _) (.cons (.g _) .nil))
 .simp only[found,bA]at h;subst h;cases ok;.exact hv
  .exact .dN (.cons hv (.cons (.g _) .nil))
theorem C5(P:Program)(hr:HR r h nx w0 w){k v:AV}{x y:Value}{ok:Bool}(hx:VR r a x)(hy:VR r k y)(he:my P h t a k ok=some v):
 ∃z,(Instr.lookup t x y ok).run P w= .ok z w/\VR r v z:=by
 unfold my at he;split at he
 .rename_i kt et hu;split at he
  .rename_i kd hk;split at he
   .rename_i z hz;split at he
    .rename_i nR;split at he
     .rename_i es Ot;have aml:∃ms,vw r es ms/\((x= .map none/\ms=[])\/∃g clock,x= .map (some g)/\w.heap[g]?=some (.map ms.toArray clock)):=by
       unfold mapOf at Ot;split at Ot;.cases hx;injection Ot with Ot;subst Ot;exact⟨[],.nil,.inl ⟨rfl,rfl⟩⟩
       .rename_i b;cases hx with
        |mp hb=>
        rename_i g m;split at Ot
        .rename_i es' clock ho;injection Ot with Ot;subst Ot
         obtain⟨ms,hg,hm⟩:=hr.obj b _ g m ho hb;exact⟨ms,hm,.inr ⟨g,clock,rfl,hg⟩⟩
        .cases Ot
       .cases Ot
      obtain⟨ms,Xh,hx'⟩:=aml;cases hq:iF kd k es 0 with
      |none=>rw[hq]at he;cases he
      |some q=>
       rw[hq]at he;have Qn:∃p,Instr.findNow kd y ms 0=some p/\((q=none/\p=none)\/(∃j v u,q=some (j,v)/\p=some (j,u)/\VR r v u)):=by
        rcases qX hy es ms 0 q hq Xh with⟨h1,h2⟩|⟨j,v,u,h1,h2,h3,_⟩;.exact⟨none,h2,.inl ⟨h1,rfl⟩⟩
        .exact⟨_,h2,.inr ⟨j,v,u,h1,rfl,h3⟩⟩
       obtain⟨p,hp,O4⟩:=Qn;refine⟨_,?_,HU he O4⟩;rcases hx' with⟨rfl,rfl⟩|⟨g,clock,rfl,hg⟩
       .cases p with
        |none=>cases ok<;>simp[Instr.lookup,run_underlying hu,run_checkKey hk nR,run_findKey hk hp,mH hz]
        |some p=>cases ok<;>simp[Instr.lookup,run_underlying hu,run_checkKey hk nR,run_findKey hk hp]
       .cases p with
        |none=>cases ok<;>simp[Instr.lookup,run_underlying hu,run_checkKey hk nR,run_findKey hk hp,mH hz,getObj,Sem.run,hg]
        |some p=>cases ok<;>simp[Instr.lookup,run_underlying hu,run_checkKey hk nR,run_findKey hk hp,getObj,Sem.run,hg]
     .cases he
    .cases he
   .cases he
  .cases he
 .cases he
theorem JV(P:Program)(hr:HR r h nx w0 w){ty:TypeId}{v:AV}{x:Value}(hx:VR r a x)(he:MK P t h a=some v):
 ∃z,(Builtin.len_ #[t] ty #[x]).run P w= .ok z w/\VR r v z:=by
 unfold MK at he;split at he
 .rename_i hu;split at he
  .cases hx;injection he with he;subst he
   exact⟨_,by simp[Builtin.len_,run_underlying hu],.g _⟩
  .cases he
 .rename_i e hu;split at he
  .cases hx;injection he with he;subst he
   exact⟨_,by simp[Builtin.len_,run_underlying hu],.g _⟩
  .cases hx;injection he with he;subst he
   exact⟨_,by simp[Builtin.len_,run_underlying hu],.g _⟩
  .cases hx;injection he with he;subst he
   exact⟨_,by simp[Builtin.len_,run_underlying hu],.g _⟩
  .cases hx;injection he with he;subst he
   exact⟨_,by simp[Builtin.len_,run_underlying hu],.g _⟩
  .injection he with he;subst he
   cases hx<;>exact⟨_,by simp[Builtin.len_,run_underlying hu],.g _⟩
  .injection he with he;subst he
   cases hx<;>exact⟨_,by simp[Builtin.len_,run_underlying hu],.g _⟩
  .cases he
 .rename_i e e' hu;split at he
  .cases hx;injection he with he;subst he
   exact⟨_,by simp[Builtin.len_,run_underlying hu],.g _⟩
  .rename_i b;cases hx with
   |mp hb=>
   rename_i g m;split at he
   .rename_i es clock ho;injection he with he;subst he
    obtain⟨ms,hg,hm⟩:=hr.obj b _ g m ho hb;have hl:=hm.length;rw[hl];exact⟨_,by simp[Builtin.len_,run_underlying hu,getObj,Sem.run,hg],.g _⟩
   .cases he
  .cases he
 .cases he
variable{ae:Operand->AV}{o:Oper}
def LJ(P:Program)(r:dG)(ev:Operand->Value)(o:Oper)(w:World):QR->Prop
 | .val v=>∃u,(execOp ev o).run P w= .ok (.value u) w/\VR r v u
 | .xa ob=>∃x,(execOp ev o).run P w= .ok (.value (.pointer (some ⟨w.heap.size,0,none⟩))) {w with heap:=w.heap.push x}/\OR r ob 0 (some x)
 | .pS ob len cap=>∃x,(execOp ev o).run P w= .ok (.value (.slice (some ⟨w.heap.size,0,none⟩) len cap)) {w with heap:=w.heap.push x}/\OR r ob 0 (some x)
 | .yC ob=>∃x,(execOp ev o).run P w= .ok (.value (.map (some w.heap.size))) {w with heap:=w.heap.push x}/\OR r ob 0 (some x)
theorem LJ.qv{P:Program}{r:dG}{ev:Operand->Value}{o:Oper}{w:World}{a:Option AV}{q:QR}(h:qv a=some q)
 (k:∀v,a=some v->∃u,(execOp ev o).run P w= .ok (.value u) w/\VR r v u):LJ P r ev o w q:=by
 unfold bC.qv at h;split at h
 .rename_i v;injection h with h;subst h
  exact k v rfl
 .cases h
theorem UR.map{r:dG}{ae:Operand->AV}{ev:Operand->Value}{x:Option Operand}(h:∀y,x=some y->VR r (ae y) (ev y)):UR r (x.map ae) (x.map ev):=by
 cases x with
 |none=>trivial
 |some y=>exact h y rfl
theorem FE:Array.range 0= #[]:=by apply Array.ext<;>simp
theorem wE{x:Value}(h:Oa a=some n)(hv:VR r a x):∃k,x= .int k n:=by
 unfold Oa at h;split at h
 .rename_i m hm;injection h with h;subst h
  exact k9 hm hv
 .cases h
theorem eM.rO{a:Array Value}(h:eM r cs a.toList)(e:TypeId):OR r (.cells cs e) 0 (some (.cells a e (0,0))):=⟨a.toList,bL,h⟩
theorem xH(P:Program)(hr:HR r h nx w0 w){ev:Operand->Value}(iq:∀x∈o.op.operands.toList,VR r (ae x) (ev x))
 {q:QR} (hq:dE P h ae o=some q):LJ P r ev o w q:=by
 unfold dE at hq;obtain⟨dst,op,type,pos,after,guard⟩:=o;dsimp only at hq iq;cases op
 case move x=>
  injection hq with hq;subst hq
  exact⟨_,by simp[execOp],iq x fV⟩
 case pick c a b=>
  replace hq:DP (ae c) (ae a) (ae b)=some q:=hq;have hc:=iq c fV;unfold DP at hq;split at hq
  .rename_i t ht;injection hq with hq;subst hq
   rw[ht]at hc;have wA:ev c= .bool t:=by generalize ev c=u at hc;cases hc;rfl
   refine⟨if t then ev a else ev b,by simp[execOp,wA,asBool],?_⟩;cases t;.exact iq b fV
   .exact iq a fV
  .cases hq
 case load t a=>refine LJ.qv (show qv (vD P h t (ae a))=some q from hq) λv hv=>?_;obtain⟨k,off,u,hx,hl,NR⟩:=zE P hr (iq a fV) hv;exact⟨u,by simp[execOp,hx,Instr.loadAt,Instr.sureAddr,hl],NR⟩
 case nilCheck x=>
  replace hq:Ob (ae x)=some q:=hq;have hx:=iq x fV;unfold Ob at hq;split at hq
  .rename_i e;rw[e]at hx;injection hq with hq;subst hq
   refine⟨_,?_,hx⟩;generalize hu:ev x=u at*;cases hx;simp[execOp,hu]
  .rename_i e;rw[e]at hx;injection hq with hq;subst hq
   refine⟨_,?_,hx⟩;generalize hu:ev x=u at*;cases hx;simp[execOp,hu]
  .rename_i e;rw[e]at hx;injection hq with hq;subst hq
   refine⟨_,?_,hx⟩;generalize hu:ev x=u at*;cases hx;simp[execOp,hu]
  .rename_i e;rw[e]at hx;injection hq with hq;subst hq
   refine⟨_,?_,hx⟩;generalize hu:ev x=u at*;cases hx;simp[execOp,hu]
  .cases hq
 case fieldAddr s x f=>
  replace hq:yK P s f (ae x)=some q:=hq;have hx:=iq x fV;unfold yK at hq;split at hq
  .rename_i b off e;rw[e]at hx;split at hq
   .rename_i n hn;injection hq with hq;subst hq
    generalize hu:ev x=u at*;cases hx with
    |ptr hb=>
    unfold aQ at hn;split at hn
    .rename_i fs X6;split at hn
     .rename_i fl wv;split at hn
      .rename_i m hm;injection hn with hn;subst hn
       refine⟨_,?_,.ptr hb⟩;simp[execOp,hu,Instr.fieldAt,run_underlying X6,wv,Instr.sureAddr,fieldPlace,en hm,iT]
      .cases hn
     .cases hn
    .cases hn
   .cases hq
  .rename_i cs e;rw[e]at hx;split at hq
   .rename_i n hn;split at hq
    .rename_i l hl;injection hq with hq;subst hq
     obtain⟨rfl,_⟩:=r9 _ _ _ hl;generalize hu:ev x=u at*;cases hx with
     |fp hz hv=>
     rename_i k off vs;unfold aQ at hn;split at hn
     .rename_i fs X6;split at hn
      .rename_i fl wv;split at hn
       .rename_i m hm;injection hn with hn;subst hn
        refine⟨_,?_,.fp (k:=k) (off:=off+fl.offset) (λi v hi=>?_) (hv.drop _)⟩;.simp[execOp,hu,Instr.fieldAt,run_underlying X6,wv,Instr.sureAddr,fieldPlace,en hm,iT]
        .rw[gV]at hi;have:=hz _ v hi
         rwa[<-jk]at this
       .cases hn
      .cases hn
     .cases hn
    .cases hq
   .cases hq
  .cases hq
 case binOp op t x y yt=>refine LJ.qv (show qv (cZ P h op t x y (ae x) (ae y))=some q from hq) λv hv=>?_;obtain⟨z,hz,Uh⟩:=JT P hr (iq x fV) (iq y fV) hv;exact⟨z,by simp only[execOp];simp only[Sem.run_bind]at hz⊢;simp only[hz,Result.andThen_ok,Sem.run_pure],Uh⟩
 case extract x i=>
  replace hq:Nw i (ae x)=some q:=hq;have hx:=iq x fV;unfold Nw at hq;split at hq
  .rename_i vs e;rw[e]at hx;refine LJ.qv hq λv hv=>?_
   rw[vi]at hv;generalize hu:ev x=u at*;cases hx with
   |dN ti=>
   obtain⟨y,hy,hvy⟩:=ti.get hv;exact⟨y,by simp[execOp,hu,Instr.extract,hy],hvy⟩
  .cases hq
 case indexAddr t x i=>
  replace hq:Jt P t (ae x) (ae i)=some q:=hq;have hx:=iq x fV;have hi:=iq i fV;have key:∀{e:TypeId} {b off len k m:Nat},r b=some (k,m)->uz P e b off len (ae i)=some q->
   ∃(kk:IntKind) (n:Int) (size:Nat),ev i= .int kk n/\0<=n/\n<len/\cN P e=some size/\q= .val (.ptr b (off+n.toNat*size)):=by
   intro e b off len k m hb hq;unfold uz at hq;split at hq
   .rename_i n hn;obtain⟨kk,hk⟩:=k9 hn hi;split at hq
    .rename_i mm hm;obtain⟨h0,h1,h2⟩:=wJ hm;split at hq
     .rename_i size hs;injection hq with hq;subst hq
      exact⟨kk,n,size,hk,h0,h1,hs,by rw[h2]⟩
     .cases hq
    .cases hq
   .cases hq
  have aiq:∀{e:TypeId} {cs:List AV} {len:Nat},AJ P e cs len (ae i)=some q->
   ∃(kk:IntKind) (n:Int) (size:Nat),ev i= .int kk n/\0<=n/\n<len/\cN P e=some size/\q= .val (.fp (cs.drop (n.toNat*size))):=by
   intro e cs len hq;unfold AJ at hq;split at hq
   .rename_i n hn;obtain⟨kk,hk⟩:=k9 hn hi;split at hq
    .rename_i mm hm;obtain⟨h0,h1,h2⟩:=wJ hm;split at hq
     .rename_i size hs;split at hq
      .rename_i l hl;injection hq with hq;subst hq
       obtain⟨rfl,_⟩:=r9 _ _ _ hl;exact⟨kk,n,size,hk,h0,h1,hs,by rw[h2]⟩
      .cases hq
     .cases hq
    .cases hq
   .cases hq
  have fpd:∀{k off:Nat} {cs:List AV} {vs:List Value} (n:Nat),(∀i v,vs[i]?=some v->r.z k (off+i)=some v)->eM r cs vs->VR r (.fp (cs.drop n)) (.pointer (some ⟨k,off+n,none⟩)):=by
   intro k off cs vs n hz hv;refine .fp (λi v hi=>?_) (hv.drop n);rw[gV]at hi;have:=hz _ v hi
   rwa[<-jk]at this
  unfold Jt at hq;split at hq
  .rename_i e hu;split at hq
   .rename_i b off len cap e';rw[e']at hx;generalize EU:ev x=u at*;cases hx with
    |sl hb=>
    obtain⟨kk,n,size,hk,h0,h1,hs,rfl⟩:=key hb hq;refine⟨_,?_,.ptr hb⟩;simp[execOp,EU,hk,Instr.indexAt,asIntOf,run_underlying hu,h0,h1,en hs,iT]
   .rename_i b off j len e';rw[e']at hx;generalize EU:ev x=u at*;cases hx with
    |mD hb hn=>
    obtain⟨kk,n,size,hk,h0,h1,hs,rfl⟩:=key hb hq;refine⟨_,?_,.ptr hb⟩;simp[execOp,EU,hk,Instr.indexAt,asIntOf,run_underlying hu,h0,h1,en hs,iT]
   .rename_i len cs e';rw[e']at hx;generalize EU:ev x=u at*;obtain⟨kk,n,size,hk,h0,h1,hs,rfl⟩:=aiq hq;cases hx with
    |Cx=>omega
    |Br=>omega
    |fz hz hc hv=>
    refine⟨_,?_,fpd (n.toNat*size) hz hv⟩;simp[execOp,EU,hk,Instr.indexAt,asIntOf,run_underlying hu,h0,h1,en hs,iT]
   .cases hq
  .rename_i len e hu;split at hq
   .rename_i b off e';rw[e']at hx;generalize EU:ev x=u at*;cases hx with
    |ptr hb=>
    obtain⟨kk,n,size,hk,h0,h1,hs,rfl⟩:=key hb hq;refine⟨_,?_,.ptr hb⟩;simp[execOp,EU,hk,Instr.indexAt,Instr.sureAddr,asIntOf,run_underlying hu,h0,h1,en hs,iT]
   .rename_i cs e';rw[e']at hx;generalize EU:ev x=u at*;obtain⟨kk,n,size,hk,h0,h1,hs,rfl⟩:=aiq hq;cases hx with
    |fp hz hv=>
    refine⟨_,?_,fpd (n.toNat*size) hz hv⟩;simp[execOp,EU,hk,Instr.indexAt,Instr.sureAddr,asIntOf,run_underlying hu,h0,h1,en hs,iT]
   .cases hq
  .cases hq
 case unOp op t x=>
  replace hq:qUn P op (ae x)=some q:=hq;have hx:=iq x fV;unfold qUn at hq;split at hq
  .rename_i u hu;obtain rfl:=js _ _ _ hu hx;split at hq
   .rename_i z hz;injection hq with hq;subst hq
    exact⟨z,by simp[execOp,iC P _ _ hz w],.g z⟩
   .cases hq
  .cases hq
 case convert s d x=>refine LJ.qv (show qv (nD P h s d (ae x))=some q from hq) λv hv=>?_;obtain⟨z,hz,Uh⟩:=Hu P hr (iq x fV) hv;exact⟨z,by simp[execOp,hz],Uh⟩
 case index t x i=>
  replace hq:rH P t (ae x) (ae i)=some q:=hq;have hx:=iq x fV;have hi:=iq i fV;unfold rH at hq;split at hq
  .rename_i u hu;obtain rfl:=js _ _ _ hu hx;split at hq
   .rename_i u' hu';obtain rfl:=js _ _ _ hu' hi;split at hq
    .rename_i z hz;injection hq with hq;subst hq
     exact⟨z,by simp[execOp,iC P _ _ hz w],.g z⟩
    .cases hq
   .cases hq
  .cases hq
 case slice t x lo hi mx=>
  replace hq:yl P t (ae x) (lo.map ae) (hi.map ae) (mx.map ae)=some q:=hq;unfold yl at hq;cases mx with
  |some mx=>
   simp only[dC]at hq;cases hi with
   |none=>cases hq
   |some hi=>
   simp only[dC]at hq;refine LJ.qv hq λv hv=>?_;obtain⟨z,hz,Uh⟩:=C3 P (iq x fV) (UR.map (x:=lo) λy hy=>iq y (by simp[Op.operands,hy])) (iq hi fV) (iq mx fV) hv w;exact⟨z,by simp[execOp,hz],Uh⟩
  |none=>
  simp only[Option.map_none]at hq;.refine LJ.qv hq λv hv=>?_;obtain⟨z,hz,Uh⟩:=F7 P (iq x fV) (UR.map (x:=lo) λy hy=>iq y (by simp[Op.operands,hy])) (UR.map (x:=hi) λy hy=>iq y (by simp[Op.operands,hy])) hv w;exact⟨z,by simp[execOp,hz],Uh⟩
 case typeAssert x xt t ok=>
  replace hq:jF P (ae x) t ok=some q:=hq;have hx:=iq x fV;unfold jF at hq;split at hq
  .rename_i t' v e;rw[e]at hx;generalize EU:ev x=u at*;cases hx with
   |kB hv=>
   rename_i u;split at hq;.cases hq
   .rename_i d hd hu;cases ok with
    |true=>
     rw[aw rfl]at hq;split at hq
     .rename_i ht;injection hq with hq;subst hq;subst ht
      refine⟨.tuple #[u,.bool true],?_,.dN (.cons hv (.cons (.g _) .nil))⟩;cases d<;>first|exact(hd _ rfl).elim|simp[execOp,EU,Instr.typeAssert,run_underlying hu]
     .rename_i ht;split at hq
      .rename_i z hz;injection hq with hq;subst hq
       refine⟨.tuple #[z,.bool false],?_,.dN (.cons (.g _) (.cons (.g _) .nil))⟩;cases d<;>first|exact(hd _ rfl).elim|simp[execOp,EU,Instr.typeAssert,run_underlying hu,ht,mH hz]
      .cases hq
    |false=>
     rw[ak bL]at hq;split at hq
     .rename_i ht;injection hq with hq;subst hq;subst ht
      refine⟨u,?_,hv⟩;cases d<;>first|exact(hd _ rfl).elim|simp[execOp,EU,Instr.typeAssert,run_underlying hu]
     .cases hq
   .cases hq
  .cases hq
 case makeInterface t x=>
  replace hq:kX P t (ae x)=some q:=hq;unfold kX at hq;split at hq;.cases hq
  .cases hq
  .rename_i d hd hu;injection hq with hq;subst hq
   refine⟨_,?_,.kB (iq x fV)⟩;simp only[execOp,Instr.makeInterface,Sem.run_bind,run_underlying hu,Result.andThen_ok];cases d<;>first|rfl|exact(hd _ rfl).elim
 case makeFunc fn first cap=>
  replace hq:qFn fn first cap ae=some q:=hq
  unfold qFn at hq;split at hq
  .rename_i f;split at hq
   .rename_i hf;injection hq with hq;subst hq
    have mj:first= #[]:=by simpa using hf
    subst mj;refine⟨_,?_,.fn (eM.map ae ev cap.toList λx hx=>iq x (by simpa[Op.operands]using hx))⟩;simp only[execOp,Instr.makeFunc,Sem.run_bind,Sem.run_pure,Result.andThen_ok];have:cap.map ev=(cap.toList.map ev).toArray:=by apply An;simp
    rw[this,UE]
   .cases hq
  .cases hq
 case lookup t x i ok=>refine LJ.qv (show qv (my P h t (ae x) (ae i) ok)=some q from hq) λv hv=>?_;obtain⟨z,hz,Uh⟩:=C5 P hr (iq x fV) (iq i fV) hv;exact⟨z,by simp[execOp,hz],Uh⟩
 case alloc elem=>
  replace hq:yW P elem=some q:=hq;unfold yW at hq;split at hq
  .rename_i z hz;injection hq with hq;subst hq
   obtain⟨v,hv,rfl⟩:=xu hz;refine⟨_,?_,eM.rO (eM.HL _) elem⟩;simp[execOp,Instr.alloc,mH hv,newVar,newRow]
  .cases hq
 case box elem x=>
  replace hq:Uq elem (ae x)=some q:=hq;unfold Uq at hq;split at hq
  .rename_i cs xV;injection hq with hq;subst hq
   have:=uR xV (iq x fV);refine⟨_,?_,eM.rO this elem⟩;simp[execOp,Instr.box,newVar,newRow]
  .cases hq
 case build t parts=>
  replace hq:uo P ae t parts.toList=some q:=hq;have Ub:∀x∈parts.toList,VR r (ae x.2) (ev x.2):=λx hx=>iq x.2 (by simp only[Op.operands];simp;exact⟨x.1,by simpa using hx⟩);unfold uo at hq;split at hq
  .rename_i z hz;obtain⟨v,hv,rfl⟩:=xu hz;unfold mc at hv;split at hv
   .rename_i it jz;have key:∀{place:Nat->Option (Nat×Nat)} {q},GK (fo place ae parts.toList (v.cells.toList.map .g))=some q->
     ∃(us:Array Value) (cs:List AV),Instr.fill place v.cells (parts.toList.map λp=>(p.1,ev p.2))=some us/\q= .val (.agg cs)/\eM r cs us.toList:=by
     intro place q hq;unfold GK at hq;split at hq
     .rename_i cs xV;injection hq with hq;subst hq
      obtain⟨us,h1,h2⟩:=sQ parts.toList _ cs v.cells xV (eM.HL _) Ub;exact⟨us,cs,h1,rfl,h2⟩
     .cases hq
    have fin:∀(us:Array Value) (cs:List AV),eM r cs us.toList->P.built t (parts.toList.map λp=>(p.1,ev p.2))=some us->LJ P r ev ⟨dst,.build t parts,type,pos,after,guard⟩ w (.val (.agg cs)):=by intro us cs ti hbu;refine⟨_,?_,.agg ti⟩;have:=run_build (P:=P) w t (parts.map λ(i,x)=>(i,ev x)) us (by simpa using hbu);simp[execOp,this]
    split at hq
    .rename_i fs hu;split at hq
     .rename_i pl sM;obtain⟨us,cs,h1,rfl,h2⟩:=key hq;refine fin us cs h2 ?_;simp only[fieldsOf,hu]at sM;simp only[Program.built,jz,hu,hv,sM];rw[<-h1]
      congr 1
      funext i
      simp[vi]
     .cases hq
    .rename_i n e hu;split at hq
     .rename_i size hs;obtain⟨us,cs,h1,rfl,h2⟩:=key hq;refine fin us cs h2 ?_;unfold cN at hs;split at hs
      .rename_i ie hie;injection hs with hs;subst hs
       simp only[Program.built,jz,hu,hv,hie];exact h1
      .cases hs
     .cases hq
    .cases hq
   .cases hv
  .cases hq
 case buildSlice t len parts=>
  replace hq:fy P ae t len parts.toList=some q:=hq;have Ub:∀x∈parts.toList,VR r (ae x.2) (ev x.2):=λx hx=>iq x.2 (by simp only[Op.operands];simp;exact⟨x.1,by simpa using hx⟩);unfold fy at hq;split at hq
  .rename_i e hu;split at hq
   .rename_i size hs;split at hq
    .rename_i z hz;split at hq
     .rename_i hc;obtain⟨v,hv,rfl⟩:=xu hz;simp only[aV,fM,kT,eU]at hc;unfold fG at hq;split at hq
      .rename_i cs xV;injection hq with hq;subst hq
       obtain⟨us,h1,h2⟩:=sQ parts.toList _ cs (fK len v.cells.toList).toArray xV (by simpa using(eM.HL v.cells.toList).rep len) Ub;refine⟨_,?_,eM.rO h2 e⟩;have GH:(Array.range (len*size)).map (λi=>v.cells[i%v.cells.size]!)=(fK len v.cells.toList).toArray:=ug v.cells len _ (by rw[hc.2]);have agE:¬len*size>2^24:=ah;by_cases h0:len*size=0
       .have aeu:(fK len v.cells.toList).toArray= #[]:=by rw[<-GH,h0,FE,UE]
        rw[aeu]at h1;simp[execOp,Instr.buildSlice,run_underlying hu,en hs,h0,FE,h1,newRow]
       .simp only[gt_iff_lt,Nat.not_lt]at agE;simp[execOp,Instr.buildSlice,run_underlying hu,en hs,agE,h0,mH hv,GH,h1,newRow]
      .cases hq
     .cases hq
    .cases hq
   .cases hq
  .cases hq
 case makeMap t x=>
  replace hq:SM P t (x.map ae)=some q:=hq;unfold SM at hq;cases x with
  |none=>
   injection hq with hq;subst hq
   exact⟨_,by simp[execOp,Instr.makeMap],[],rfl,.nil⟩
  |some x=>
   have hx:=iq x fV;simp only[dC]at hq;split at hq
   .rename_i k e hu;split at hq
    .rename_i p hp;injection hq with hq;subst hq
     have hi:=jC (k:=p.1) (n:=p.2) hp hx;exact⟨_,by simp[execOp,Instr.makeMap,run_underlying hu,hi,asInt,asIntOf],[],rfl,.nil⟩
    .cases hq
   .cases hq
 case makeSlice t l c=>
  replace hq:qp P t (ae l) (ae c)=some q:=hq;unfold qp at hq;split at hq
  .rename_i e hu;split at hq
   .rename_i ln hl;split at hq
    .rename_i cn OL;obtain⟨kl,oh⟩:=wE hl (iq l fV);obtain⟨kc,wA⟩:=wE OL (iq c fV);unfold O7 at hq;split at hq
     .rename_i size hs;split at hq
      .rename_i bytes hby;split at hq
       .rename_i z hz;split at hq
        .rename_i hc;injection hq with hq;subst hq
         obtain⟨v,hv,rfl⟩:=xu hz;simp only[aV,fM,kT,eU]at hc;obtain⟨⟨⟨h1,h2⟩,h3⟩,h4⟩:=hc;obtain⟨i,hi,PI⟩:=JZ hby w;have GH:(Array.range (cn*size)).map (λi=>v.cells[i%v.cells.size]!)=(fK cn v.cells.toList).toArray:=ug v.cells cn _ (by rw[h4]);refine⟨_,?_,fK cn v.cells.toList,rfl,(eM.HL v.cells.toList).rep cn⟩;have wl:IntKind.i64.wrap (ln:Int)=ln:=by rw[IntKind.wrap_i64];omega
         have wc:IntKind.i64.wrap (cn:Int)=cn:=by rw[IntKind.wrap_i64];omega
         have RO:bytes*cn<=65536*65536:=Ef h3 h2;have hprod':((bytes:Int)*(cn:Int))<=4294967296:=by have:((bytes*cn:Nat):Int)<=((65536*65536:Nat):Int):=Af.2 RO;simpa using this
         have c1:¬((cn:Int)<0):=ah;have c2:¬(281474976710656<(bytes:Int)*(cn:Int)):=ah;have c3:¬((ln:Int)<0):=ah;have c4:¬(cn<ln):=ah;by_cases h0:cn*size=0
         .have aeu:(fK cn v.cells.toList).toArray= #[]:=by rw[<-GH,h0,FE,UE]
          simp only[execOp,Instr.makeSlice,oh,wA,Sem.run_bind,run_underlying hu,Result.andThen_ok,asInt,asIntOf,Sem.run_pure,hi,PI,wl,wc];simp[c1,c2,c3,c4,en hs,h0,newRow,aeu,FE]
         .simp only[execOp,Instr.makeSlice,oh,wA,Sem.run_bind,run_underlying hu,Result.andThen_ok,asInt,asIntOf,Sem.run_pure,hi,PI,wl,wc];simp[c1,c2,c3,c4,en hs,h0,newRow,mH hv,GH]
        .cases hq
       .cases hq
      .cases hq
     .cases hq
    .cases hq
   .cases hq
  .cases hq
 case call c=>
  replace hq:tO P h ae c=some q:=hq;obtain⟨callee,args,argTypes⟩:=c;simp only[Op.operands,Call.operands]at iq;unfold tO at hq;dsimp only at hq;split at hq
  .rename_i b;split at hq
   .rename_i x xD;have qm:args= #[x]:=by rw[<-dF (xs:=args),xD]
    subst qm;have hx:=iq x bL;split at hq
    .rename_i t ht;have vC:argTypes= #[t]:=by rw[<-dF (xs:=argTypes),ht]
     subst vC;split at hq;.refine LJ.qv hq λv hv=>?_;obtain⟨z,hz,Uh⟩:=JV P (ty:=type) hr hx hv;exact⟨z,by simp[execOp,resolve,invoke,builtin,hz],Uh⟩
     .split at hq
      .rename_i e hu;unfold Ua at hq;split at hq
       .rename_i b off len cap e';rw[e']at hx;injection hq with hq;subst hq
        generalize EU:ev x=u at*;cases hx;exact⟨_,by simp[execOp,resolve,invoke,builtin,EU,Builtin.cap_,run_underlying hu],.g _⟩
       .rename_i ad len cap e';rw[e']at hx;injection hq with hq;subst hq
        generalize EU:ev x=u at*;cases hx;exact⟨_,by simp[execOp,resolve,invoke,builtin,EU,Builtin.cap_,run_underlying hu],.g _⟩
       .cases hq
      .cases hq
     .cases hq
    .cases hq
   .rename_i x y xD;have qm:args= #[x,y]:=by rw[<-dF (xs:=args),xD]
    subst qm;split at hq
    .unfold TN at hq;split at hq
     .rename_i u hu;have vz:=js _ _ _ hu (iq x bL);split at hq
      .rename_i u' hu';have hyu:=js _ _ _ hu' (iq y bL);split at hq
       .rename_i z hz;injection hq with hq;subst hq
        have:=iC P _ _ hz w;exact⟨z,by simp[execOp,resolve,invoke,builtin,Builtin.min_,vz,hyu,this],.g z⟩
       .cases hq
      .cases hq
     .cases hq
    .unfold O1 at hq;split at hq
     .rename_i u hu;have vz:=js _ _ _ hu (iq x bL);split at hq
      .rename_i u' hu';have hyu:=js _ _ _ hu' (iq y bL);split at hq
       .rename_i z hz;injection hq with hq;subst hq
        have:=iC P _ _ hz w;exact⟨z,by simp[execOp,resolve,invoke,builtin,Builtin.max_,vz,hyu,this],.g z⟩
       .cases hq
      .cases hq
     .cases hq
    .cases hq
   .cases hq
  .cases hq
 all_goals cases hq
variable{sCap sLen:Nat}
def Src(P:Program)(t':TypeId)(z:Value)(size n:Nat)(x:Value)(new:List Value)(w:World):Prop:=
 (∃e',P.underlying t'=some (.slice e')/\Builtin.lenOf x=pure n/\∀w',w'.heap=w.heap->(Builtin.firstCells size n x).run P w'= .ok new.toArray w')\/
 (∃kn k,P.underlying t'=some (.int kn)/\x= .int k n/\new=fK n z.cells.toList)
section
variable{P:Program}(w:World){t t' ty e:TypeId}{i:TypeInfo}{z:Value}(ht:P.underlying t=some (.slice e))(hi:P.info? e=some i)(hz:i.zero=some z)
 (hb:i.bytes<65536) (hs:0<i.size) {n:Nat} (hn:n<65536) {x:Value} {new:List Value} (wu:Src P t' z i.size n x new w)
include ht hi hz hb hs hn wu
omit hz hb hs in
theorem aay(h0:n=0){base:Option Addr}(hc:sLen<=sCap):
 (Builtin.append_ #[t,t'] ty #[.slice base sLen sCap,x]).run P w= .ok (.slice base sLen sCap) w:=by
 subst h0;rcases wu with⟨e',vC,hl,hf⟩|⟨kn,k,vC,rfl,rfl⟩
 .have qO:new=[]:=by
   have:=hf w rfl;have h2:(Builtin.firstCells i.size 0 x).run P w= .ok #[] w:=by
    cases x<;>simp[Builtin.lenOf]at hl
    all_goals first|(cases hl;done)|skip
    .rename_i s;simp[Builtin.firstCells]at this⊢
    .rename_i a _ _;cases a<;>simp[Builtin.firstCells,loadCells,loadCellsFrom]
   rw[h2]at this;injection this with this
   simpa using this.symm
  subst qO;have mj:=hf w rfl;cases base with
  |none=>simp[Builtin.append_,run_underlying ht,run_underlying vC,sizeOf,typeInfo,hi,hl,mj,hc]
  |some a=>simp[Builtin.append_,run_underlying ht,run_underlying vC,sizeOf,typeInfo,hi,hl,mj,hc,storeCells]
 .have hw:IntKind.i64.wrap (0:Int)=0:=by rw[IntKind.wrap_i64];omega
  cases base with
  |none=>simp[Builtin.append_,run_underlying ht,run_underlying vC,sizeOf,typeInfo,hi,hc,asInt,asIntOf,hw]
  |some a=>simp[Builtin.append_,run_underlying ht,run_underlying vC,sizeOf,typeInfo,hi,hc,asInt,asIntOf,hw,storeCells]
theorem EY{a:Addr}(h0:n≠0)(hc:sLen+n<=sCap)(jf:(storeCells (a.add (sLen*i.size)) new).run P w= .ok () w'):
 (Builtin.append_ #[t,t'] ty #[.slice (some a) sLen sCap,x]).run P w= .ok (.slice (some a) (sLen+n) sCap) w':=by
 rcases wu with⟨e',vC,hl,hf⟩|⟨kn,k,vC,rfl,rfl⟩;.have mj:=hf w rfl;simp[Builtin.append_,run_underlying ht,run_underlying vC,sizeOf,typeInfo,hi,hl,mj,hc,jf]
 .have hw:IntKind.i64.wrap (n:Int)=n:=by rw[IntKind.wrap_i64];omega
  have aey:¬((n:Int)<0):=ah;have RO:((n:Int)*(i.bytes:Int))<=4294967296:=by have h1:n*i.bytes<=65536*65536:=Ef ah ah;have:((n*i.bytes:Nat):Int)<=((65536*65536:Nat):Int):=Af.2 h1;simpa using this
  have h48:¬(281474976710656<(n:Int)*(i.bytes:Int)):=ah;have hns:¬(n*i.size=0):=Nat.mul_ne_zero h0 ah;have hzc:Builtin.zeroCells z.cells n=(fK n z.cells.toList).toArray:=ug z.cells n _ rfl;simp[Builtin.append_,run_underlying ht,run_underlying vC,sizeOf,typeInfo,zeroValue,hi,hz,hc,asInt,asIntOf,hw,aey,h48,hns,hzc,jf]
theorem Aa{base:Option Addr}(h0:n≠0)(hc:sCap<sLen+n)(bP:sLen+n<131072){old:Array Value}(hfo:(Builtin.firstCells i.size sLen (.slice base sLen sCap)).run P w.drew= .ok old w.drew):
 (Builtin.append_ #[t,t'] ty #[.slice base sLen sCap,x]).run P w= .ok (.slice (some ⟨w.heap.size,0,none⟩) (sLen+n) (grownCap w (sLen+n) sCap e))
  (w.drew.alloc (.cells (old++new.toArray++Builtin.zeroCells z.cells (grownCap w (sLen+n) sCap e-(sLen+n))) e)):=by
 have hnc:¬(sLen+n<=sCap):=ah;have ae2:¬(9223372036854775807<((sLen:Int)+(n:Int))):=ah;have hmul:(sLen+n)*i.bytes<=131072*65536:=Ef ah ah;have afe:¬(281474976710656<Builtin.nextslicecap (sLen+n) sCap*i.bytes):=by have:=growslice_fits (need:=sLen+n) (old:=sCap) (bytes:=i.bytes) hc ah;omega
 rcases wu with⟨e',vC,hl,hf⟩|⟨kn,k,vC,rfl,rfl⟩;.have mj:=hf w.drew rfl;simp[Builtin.append_,run_underlying ht,run_underlying vC,sizeOf,typeInfo,zeroValue,hi,hz,hl,hnc,ae2,afe,Question.forced,mj,hfo,newRow,grownCap]
 .have hw:IntKind.i64.wrap (n:Int)=n:=by rw[IntKind.wrap_i64];omega
  have aey:¬((n:Int)<0):=ah;have RO:((n:Int)*(i.bytes:Int))<=4294967296:=by have h1:n*i.bytes<=65536*65536:=Ef ah ah;have:((n*i.bytes:Nat):Int)<=((65536*65536:Nat):Int):=Af.2 h1;simpa using this
  have h48:¬(281474976710656<(n:Int)*(i.bytes:Int)):=ah;have hns:¬(n*i.size=0):=Nat.mul_ne_zero h0 ah;have hzc:Builtin.zeroCells z.cells n=(fK n z.cells.toList).toArray:=ug z.cells n _ rfl;simp[Builtin.append_,run_underlying ht,run_underlying vC,sizeOf,typeInfo,zeroValue,hi,hz,asInt,asIntOf,hw,aey,h48,hns,hzc,hnc,ae2,afe,Question.forced,hfo,newRow,grownCap]
end
theorem ry{P:Program}{w:World}(hr:HR r h nx w0 w){m off:Nat}(hb:r b=some (k,m)){l:List AV}(hl:cK h b off n=some l):
 ∃vs,eM r l vs/\vs.length=n/\∀(w':World),w'.heap=w.heap->(loadCells ⟨k,off,none⟩ n).run P w'= .ok vs.toArray w':=by
 obtain⟨vs,ti,bP,jo,_⟩:=mL hr hb hl;refine⟨vs,ti,bP,λw' hw=>?_⟩;have:=run_loadCells_list (P:=P) w' ⟨k,off,none⟩ vs (λj v hj=>by have:=jo j v hj;simp only[World.cell?,hw]at this⊢;exact this);rw[bP]at this;exact this
theorem Jh(P:Program){w:World}(hr:HR r h nx w0 w){z:Value}{t':TypeId}{x:Value}(hx:VR r a x){l:List AV}
 (he:M9 P h size (z.cells.toList.map .g) t' a=some (n,l)):∃new,eM r l new/\Src P t' z size n x new w/\(z.cells.size=size->new.length=n*size):=by
 unfold M9 at he;split at he
 .rename_i kn vC;split at he
  .rename_i m hm;injection he with he;injection he with h1 h2;subst h1;subst h2
   obtain⟨k,rfl⟩:=wE hm hx;exact⟨_,(eM.HL _).rep _,.inr ⟨kn,k,vC,rfl,rfl⟩,λhz=>by rw[tS];simp[hz]⟩
  .cases he
 .rename_i e' vC;unfold dV at he;split at he
  .cases hx;split at he
   .rename_i hn;injection he with he;injection he with h1 h2;subst h1;subst h2;subst hn
    exact⟨[],.nil,.inl ⟨e',vC,rfl,λw' _=>rfl⟩,λ_=>bL⟩
   .cases he
  .cases hx with
   |sl hb=>
   split at he
   .rename_i q hq;injection he with he;injection he with h1 h2;subst h1;subst h2
    obtain⟨vs,ti,bP,ec⟩:=ry (P:=P) hr hb hq;exact⟨vs,ti,.inl ⟨e',vC,rfl,λw' hw=>ec w' hw⟩,λ_=>bP⟩
   .cases he
  .cases hx with
   |mD hb hn=>
   split at he
   .rename_i q hq;injection he with he;injection he with h1 h2;subst h1;subst h2
    obtain⟨vs,ti,bP,ec⟩:=ry (P:=P) hr hb hq;exact⟨vs,ti,.inl ⟨e',vC,rfl,λw' hw=>ec w' hw⟩,λ_=>bP⟩
   .cases he
  .cases hx with
   |sle=>
   injection he with he;injection he with h1 h2;subst h1;subst h2
   exact⟨[],.nil,.inl ⟨e',vC,rfl,λw' _=>by simp[Builtin.firstCells,loadCells,loadCellsFrom]⟩,λ_=>bL⟩
  .injection he with he;injection he with h1 h2;subst h1;subst h2
   cases hx with
   |ME=>exact⟨[],.nil,.inl ⟨e',vC,rfl,λw' _=>by simp[Builtin.firstCells]⟩,λ_=>bL⟩
   |LZ=>exact⟨[],.nil,.inl ⟨e',vC,rfl,λw' _=>by simp[Builtin.firstCells,loadCells,loadCellsFrom]⟩,λ_=>bL⟩
  .rename_i n' cs;split at he
   .rename_i xy;injection he with he;injection he with h1 h2;subst h1;subst h2
    cases hx with
    |Cx=>exact⟨[],.nil,.inl ⟨e',vC,rfl,λw' _=>by simp[Builtin.firstCells]⟩,λ_=>bL⟩
    |Br=>exact⟨[],.nil,.inl ⟨e',vC,rfl,λw' _=>by simp[Builtin.firstCells,loadCells,loadCellsFrom]⟩,λ_=>bL⟩
    |fz hz hc hv=>rename_i k off cap vs;have hl:=hv.length;have jo:=yZ hr hz;refine⟨vs,hv,.inl ⟨e',vC,rfl,λw' hw=>?_⟩,λ_=>ah⟩;have:=run_loadCells_list (P:=P) w' ⟨k,off,none⟩ vs (λj v hj=>by have:=jo j v hj;rw[iT];simp only[World.cell?,hw]at this⊢;exact this);rw[show vs.length=n'*size from ah]at this;simpa[Builtin.firstCells]using this
   .cases he
  .cases he
 .cases he
def ID(P:Program)(r:dG)(h:aG)(nx:Nat)(w0 w:World)(s:Sem Next):ER->Prop
 | .val v h'=>∃n u w',s.run P w= .ok n w'/\(n= .value u\/(n= .skip/\u=undef))/\VR r v u/\HR r h' nx w0 w'
 | .pT o len h'=>∃k N w',s.run P w= .ok (.value (.slice (some ⟨k,0,none⟩) len N)) w'/\len<=N/\r nx=none/\HR (r.upd nx (k,N)) (aK h' nx o) (nx+1) w0 w'
 | .enter f args=>∃as:List Value,s.run P w= .ok (.enter f as.toArray) w/\eM r args as
 | .defer d=>∃d',s.run P w= .ok (.defer d') w/\DR r d d'
 | .round l args=>∃k n as lo al,r l=some (k,n)/\au h l=some (.loop al)/\w.heap[k]?=some (.loop lo)/\LR r al lo/\eM r args as/\al.params.length=args.length/\
  s.run P w= .ok (.round k lo.fn ((lo.params.zip as.toArray).foldl (λtmps (t,a)=>tmps.setIfInBounds t a) lo.tmps) lo.assign lo.body) w
theorem nC(z:Array Value)(n:Nat):(Builtin.zeroCells z n).size=n*z.size:=by simp[Builtin.zeroCells]
theorem eM.si{l:List AV}(hv:eM r l us)(h:l.all AV.cy=true):∀u∈us,u.oneCell'=true:=by intro u hu;obtain⟨x,hx,vz⟩:=hv.mem u hu;exact xJ (eY.1 h x hx) vz
variable{N:Nat}{er:ER}{types:Array TypeId}
theorem HR.pT(hr:HR r h' nx w0 w)(hh:h'=h){e:TypeId}{c c':List Value}(hv:eM r cs c)(hl:(c++c').length=N*size){a:Array Value}(ha:a=(c++c').toArray):
 HR (r.upd nx (w.heap.size,N)) (aK h nx (.eP cs e size)) (nx+1) w0 (w.drew.alloc (.cells a e)):=by
 subst hh;subst ha;refine(hr.drew).alloc (o:= .eP cs e size) (hr.fresh (an _)) (aW _) (bz _) (by simp[aj]) (λb x e=>?_) ⟨c,c',rfl,hv,hl⟩;rw[aj,ak];have:=(hr.xP b x e).1;omega
theorem fA{s:Sem Value}{v:Value}(h:s.run P w= .ok v w'):(do pure (.value (<-s)):Sem Next).run P w= .ok (.value v) w':=by simp only[Sem.run_bind,h,Result.andThen_ok,Sem.run_pure]
theorem F3(P:Program)(hr:HR r h nx w0 w){ty:TypeId}{s x:AV}{vs vx:Value}(hs:VR r s vs)(hx:VR r x vx)
 (he:gj P h types s x=some er):ID P r h nx w0 w (do pure (.value (<-Builtin.append_ types ty #[vs,vx]))) er:=by
 unfold gj at he;split at he
 .rename_i t t' Db;have H7:types= #[t,t']:=by rw[<-dF (xs:=types),Db]
  subst H7;split at he
  .rename_i e ht;unfold Sy at he;split at he
   .rename_i size tg;split at he
    .rename_i bytes J9;split at he
     .rename_i zl hz;split at he
      .rename_i p hp;split at he
       .rename_i rQ;obtain⟨n,l⟩:=p;unfold dy at hz;unfold cN at tg;unfold kg at J9;split at hz
        .rename_i i hi;simp only[hi,bA]at tg J9;split at hz
         .rename_i z GH;injection hz with hz;subst hz
          simp only[NY,aV,fM,kT,eU]at rQ;obtain⟨⟨⟨⟨o1,o2⟩,o3⟩,o4⟩,o5⟩:=rQ;obtain⟨new,qO,wu,bP⟩:=Jh (w:=w) P hr hx hp;have bP:=bP o5;subst tg;subst J9;unfold pQ at he;simp only at he;split at he
          ·
           rename_i h0;have key:∀{base:Option Addr} {sLen sCap:Nat},sLen<=sCap->(Builtin.append_ #[t,t'] ty #[.slice base sLen sCap,vx]).run P w= .ok (.slice base sLen sCap) w:=
            λhc=>aay w ht hi o4 wu h0 hc
           unfold yk at he;split at he
           .split at he
            .rename_i hc;injection he with he;subst he
             cases hs with
             |sl hb=>
             exact⟨_,_,w,fA (key hc),.inl rfl,.sl hb,hr⟩
            .cases he
           .injection he with he;subst he
            rename_i b off j len;cases hs with
            |mD hb hn=>
            rename_i k N;have hk:=key (base:=some ⟨k,off,none⟩) (sLen:=len) (sCap:=N-j) ah;exact⟨_,_,w,fA hk,.inl rfl,.mD hb hn,hr⟩
           .injection he with he;subst he
            cases hs;exact⟨_,_,w,fA (key (an _)),.inl rfl,.g _,hr⟩
           .injection he with he;subst he
            cases hs with
            |ME=>exact⟨_,_,w,fA (key (an _)),.inl rfl,.ME,hr⟩
            |LZ=>exact⟨_,_,w,fA (key (an _)),.inl rfl,.LZ,hr⟩
           .injection he with he;subst he
            cases hs with
            |Cx=>exact⟨_,_,w,fA (key (an _)),.inl rfl,.Cx,hr⟩
            |Br=>exact⟨_,_,w,fA (key (aY _)),.inl rfl,.Br,hr⟩
            |fz hz hc hv=>exact⟨_,_,w,fA (key hc),.inl rfl,.fz hz hc hv,hr⟩
           .cases he
          .rename_i h0;split at he
           ·
            injection he with he;subst he
            cases hs;have ec:=Aa (P:=P) w (ty:=ty) ht hi GH o3 o1 o4 wu (base:=none) (sLen:=0) (sCap:=0) h0 ah ah (old:= #[]) rfl;have Cb:=grownCap_ge w (0+n) 0 e;simp only[fx]at ec Cb;refine⟨w.heap.size,grownCap w n 0 e,_,fA ec,ah,hr.fresh (an _),?_⟩;have hzl:(Builtin.zeroCells z.cells (grownCap w n 0 e-n)).size=(grownCap w n 0 e-n)*i.size:=by rw[nC,o5]
            refine hr.pT rfl qO (c':=(Builtin.zeroCells z.cells (grownCap w n 0 e-n)).toList) ?_ bL;simp only[aq,eU,hzl,bP,<-bh]
            congr 1
            omega
           ·
            injection he with he;subst he
            have grow:∀(base:Option Addr),vs= .slice base 0 0->ID P r h nx w0 w (do pure (.value (<-Builtin.append_ #[t,t'] ty #[vs,vx]))) (.pT (.eP l e i.size) n h):=by
             intro base ti;subst ti;have ec:=Aa (P:=P) w (ty:=ty) ht hi GH o3 o1 o4 wu (base:=base) (sLen:=0) (sCap:=0) h0 ah ah (old:= #[]) (by cases base<;>simp[Builtin.firstCells,loadCells,loadCellsFrom]);have Cb:=grownCap_ge w (0+n) 0 e;simp only[fx]at ec Cb;refine⟨w.heap.size,grownCap w n 0 e,_,fA ec,ah,hr.fresh (an _),?_⟩;have hzl:(Builtin.zeroCells z.cells (grownCap w n 0 e-n)).size=(grownCap w n 0 e-n)*i.size:=by rw[nC,o5]
             refine hr.pT rfl qO (c':=(Builtin.zeroCells z.cells (grownCap w n 0 e-n)).toList) ?_ bL;simp only[aq,eU,hzl,bP,<-bh]
             congr 1
             omega
            cases hs with
            |ME=>exact grow _ rfl
            |LZ=>exact grow _ rfl
           ·
            rename_i b off len cap;cases hs with
            |sl hb=>
            rename_i k m;unfold P0 at he;split at he
            .rename_i hc;split at he
             .rename_i jo;split at he
              .rename_i h' jf;injection he with he;subst he
               obtain⟨w',ec,qa,_⟩:=lD P hr hb qO (qO.si jo) jf;have:=EY (P:=P) w (ty:=ty) ht hi GH o3 o1 o4 wu (a:=⟨k,off,none⟩) h0 hc (by rw[iT];exact ec);exact⟨_,_,w',fA this,.inl rfl,.sl hb,qa⟩
              .cases he
             .cases he
            .rename_i hc;split at he;.cases he
             .rename_i tW;split at he
              .rename_i old hold;injection he with he;subst he
               obtain⟨ovs,hovs,holen,horun⟩:=ry (P:=P) hr hb hold;have ec:=Aa (P:=P) w (ty:=ty) ht hi GH o3 o1 o4 wu (base:=some ⟨k,off,none⟩) (sLen:=len) (sCap:=cap) h0 ah ah (old:=ovs.toArray) (horun w.drew rfl);have Cb:=grownCap_ge w (len+n) cap e;refine⟨w.heap.size,grownCap w (len+n) cap e,_,fA ec,ah,hr.fresh (an _),?_⟩;have hzl:(Builtin.zeroCells z.cells (grownCap w (len+n) cap e-(len+n))).size=(grownCap w (len+n) cap e-(len+n))*i.size:=by rw[nC,o5]
               refine hr.pT rfl (hovs.append qO) (c':=(Builtin.zeroCells z.cells (grownCap w (len+n) cap e-(len+n))).toList) ?_ bL;simp only[aq,eU,hzl,bP,holen,<-bh]
               congr 1
               omega
              .cases he
           ·
            rename_i b off j len;cases hs with
            |mD hb hn=>
            rename_i k N;unfold Qz at he;split at he
            .rename_i cs e' es ho;split at he
             .rename_i Ot;obtain⟨rfl,agn,rfl⟩:=Ot;obtain⟨c,c',hk,xV,xy⟩:=hr.obj b _ k N ho hb;have amp:=xV.length;split at he;.cases he
              .rename_i jo;have jo:l.all AV.cy=true:=by simpa using jo
               split at he
               .rename_i hle;split at he
                .rename_i h' jf;injection he with he;subst he
                 obtain⟨w',ec,qa,_⟩:=lD P hr hb qO (qO.si jo) jf;have lX:j+(len+n)<=N:=by
                  have h1:(j+(len+n))*i.size<=N*i.size:=by rw[<-xy,aq,<-amp,bh,<-agn];omega
                  exact Nat.le_of_mul_le_mul_right h1 o1
                 have:=EY (P:=P) w (ty:=ty) ht hi GH o3 o1 o4 wu (a:=⟨k,off,none⟩) (sLen:=len) (sCap:=N-j) h0 ah (by rw[iT];exact ec);exact⟨_,_,w',fA this,.inl rfl,.mD hb lX,qa⟩
                .cases he
               .split at he
                .rename_i O5;obtain⟨anY,rfl,tW⟩:=O5;injection he with he;subst he
                 have agD:off=0:=by rw[agn];simp
                 subst agD;have aa1:c.length=len*i.size:=ah;have anF:=(hr.xP b _ hb).1;by_cases pM:len+n<=N
                 ·
                  have adl:0+(len*i.size)+new.length<=(c++c').toArray.size:=by have:(len+n)*i.size<=N*i.size:=aI _ pM;rw[bh]at this;simp only[wK,xy,bP];omega
                  have jf:=run_storeCells_at P k (len*i.size) e' new 0 (c++c').toArray w hk (by simpa using adl) (qO.si jo);have:=EY (P:=P) w (ty:=ty) ht hi GH o3 o1 o4 wu (a:=⟨k,0,none⟩) (sLen:=len) (sCap:=N-0) h0 ah (by rw[iT,fx];exact jf);refine⟨k,N,_,fA this,pM,hr.fresh (an _),?_⟩;refine hr.Bn hb ho trivial ah (o':= .eP (cs++l) e' i.size) (n':=N) ⟨c++new,c'.drop new.length,?_,xV.append qO,?_⟩ (rS hk _)
                  .have a1:(c++c').take (len*i.size+0)=c:=by rw[dD,<-aa1];simp
                   have a2:(c++c').drop (len*i.size+0+new.length)=c'.drop new.length:=by rw[dD,<-aa1,<-lU];simp
                   simp only[a1,a2]
                  .simp only[wK]at adl;simp only[aq,aC]at xy adl⊢;omega
                 ·
                  have cK:cK h b 0 (len*i.size)=some cs:=by
                   have hd:ed 0 cs=some cs:=rfl;have Jc:∀(m:Nat) (q:List AV),m=q.length->de m q=some q:=by
                    intro m q hm;subst hm
                    induction q with
                    |nil=>rfl
                    |cons a q ih=>show Option.rec (motive:=λ_=>Option (List AV)) none (λr=>some (a::r)) (de q.length q)=_;rw[ih]
                   simp only[bC.cK,ho,AO.cells?,hd];exact Jc _ _ ah
                  obtain⟨ovs,hovs,holen,horun⟩:=ry (P:=P) hr hb cK;have ec:=Aa (P:=P) w (ty:=ty) ht hi GH o3 o1 o4 wu (base:=some ⟨k,0,none⟩) (sLen:=len) (sCap:=N-0) h0 ah ah (old:=ovs.toArray) (horun w.drew rfl);have Cb:=grownCap_ge w (len+n) (N-0) e';refine⟨w.heap.size,grownCap w (len+n) (N-0) e',_,fA ec,ah,hr.fresh (an _),?_⟩;have hzl:(Builtin.zeroCells z.cells (grownCap w (len+n) (N-0) e'-(len+n))).size=(grownCap w (len+n) (N-0) e'-(len+n))*i.size:=by rw[nC,o5]
                  refine(hr.kill b).pT rfl (hovs.append qO) (c':=(Builtin.zeroCells z.cells (grownCap w (len+n) (N-0) e'-(len+n))).toList) ?_ bL;simp only[aq,eU,hzl,bP,holen,<-bh]
                  congr 1
                  omega
                .cases he
             .cases he
            .cases he
           .cases he
         .cases hz
        .cases hz
       .cases he
      .cases he
     .cases he
    .cases he
   .cases he
  .cases he
 .cases he
end
end bC
end Go.Proofs.YtonnifoeokagjaaGreat
