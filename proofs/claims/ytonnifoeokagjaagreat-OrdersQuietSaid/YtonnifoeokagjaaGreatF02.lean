/- The theorem quiet_holds of OrdersQuiet: part 2 of its proof; no conditions. -/
import Derived.Test.YtonnifoeokagjaaGreatF01
import Derived.Laws.BitsLemmas
import Derived.Laws.CopyRow
import Derived.Laws.Cells
import Derived.Laws.BytesString
import Derived.Laws.Tables
import Derived.Laws.Append
import Derived.Laws.AppendOwn
namespace Go.Proofs.YtonnifoeokagjaaGreat
set_option linter.all false
set_option maxRecDepth 8000
open Go Go.RowKit
open Option renaming some->J,none->B
open Bool renaming true->M,false->R
open List renaming length->O
namespace br
noncomputable section
variable{a:u}{b c:Nat}{cs:List u}{AV:Value}
namespace BT
variable{α:Type}
def get_nil(n):(nil:BT α).get n=B:=rfl
def wC(t:BT α):t.get 0=t.val:=by cases t<;>rfl
def ahG(m):Nat.beq (Nat.mod m 2) 0=decide (m%2=0):=by
 by_cases h:m%2=0;.simp only[h,rN];show Nat.beq (m%2) 0=M;rw[h];rfl
 .simp only[h,ql];show Nat.beq (m%2) 0=R;cases hh:m%2 with
  |zero=>exact absurd hh h
  |succ k=>rfl
def wQ(t:BT α)(m:Nat):t.get (m+1)=if m%2=0 then t.left.get (m / 2)else t.right.get (m / 2):=by
 cases t with
 |nil=>simp[get_nil,left,right]
 |node v l r=>show Bool.rec (motive:=λ_=>Option α) (r.get (Nat.div m 2)) (l.get (Nat.div m 2)) (Nat.beq (Nat.mod m 2) 0)=_;rw[ahG];by_cases h:m%2=0<;>simp only[h,rN,ql,left,right,cA,cU]<;>rfl
def C5(f:Nat)(t:BT α)(a:α):set (f+1) t 0 a=node (J a) t.left t.right:=by cases t<;>rfl
def Xw(f:Nat)(t:BT α)(m:Nat)(a:α):set (f+1) t (m+1) a=if m%2=0 then node t.val (set f t.left (m / 2) a) t.right else node t.val t.left (set f t.right (m / 2) a):=by
 cases t with
 |nil=>show Bool.rec (motive:=λ_=>BT α) (node B nil (set f nil (Nat.div m 2) a)) (node B (set f nil (Nat.div m 2) a) nil) (Nat.beq (Nat.mod m 2) 0)=_;rw[ahG];by_cases h:m%2=0<;>simp only[h,rN,ql,left,right,val,cA,cU]<;>rfl
 |node v l r=>show Bool.rec (motive:=λ_=>BT α) (node v l (set f r (Nat.div m 2) a)) (node v (set f l (Nat.div m 2) a) r) (Nat.beq (Nat.mod m 2) 0)=_;rw[ahG];by_cases h:m%2=0<;>simp only[h,rN,ql,left,right,val,cA,cU]<;>rfl
def CW:∀(f:Nat) (t:BT α) (n m:Nat) (a:α),n+1<2^f->(set f t n a).get m=if m=n then J a else t.get m
 |0,_,n,_,_,h=>by simp at h
 |f+1,t,n,m,a,h=>by
  cases n with
  |zero=>
   rw[C5];cases m with
   |zero=>simp[wC,val]
   |succ m=>simp[wQ,left,right]
  |succ n=>
   have hn:n / 2+1<2^f:=by rw[kZ]at h;omega
   rw[Xw];by_cases hp:n%2=0
   .rw[au hp];cases m with
    |zero=>simp[wC,val]
    |succ m=>
     simp only[wQ,left,right,CW f _ _ _ _ hn];by_cases hm:m%2=0
     .simp only[hm,cA];by_cases V:m=n;.subst V;simp
      .have:m / 2≠n / 2:=U;simp[this,V]
     .have:m≠n:=by intro e;subst e;exact hm hp
      simp[hm,this]
   .rw[ak hp];cases m with
    |zero=>simp[wC,val]
    |succ m=>
     simp only[wQ,left,right,CW f _ _ _ _ hn];by_cases hm:m%2=0
     .have:m≠n:=by intro e;subst e;exact hp hm
      simp[hm,this]
     .simp only[hm,cU];by_cases V:m=n;.subst V;simp
      .have:m / 2≠n / 2:=U;simp[this,V]
def EF(n:Nat):n+1<2^(n+1)\/n=0:=by
 induction n with
 |zero=>exact .inr Z
 |succ n ih=>
  left;rw[kZ];obtain h|h:=ih
  .omega
  .subst h;simp
end BT
def aj(h b c o):N (aI h b o) c=if c=b then J o else N h c:=by
 unfold N aI;obtain D|rfl:=BT.EF b
 .exact BT.CW _ _ _ _ _ D
 .rw[BT.C5];cases c with
  |zero=>simp[BT.wC,BT.val]
  |succ m=>simp[BT.wQ,BT.left,BT.right]
theorem TZ{h hi b o}(e:aI h b o=hi):N hi b=J o:=by rw[<-e,aj,au Z]
theorem Tb{h b o}:N (aI h b o) b=J o:=by rw[aj,au Z]
theorem U9{h hi b c o x}(e:aI h b o=hi)(k:N h c=x)(n:¬c=b:=by omega):N hi c=x:=by rw[<-e,aj,ak n];exact k
theorem WV{h b c}{o:AO}{x}(k:N h c=x)(n:¬c=b:=by omega):N (aI h b o) c=x:=by rw[aj,ak n];exact k
theorem Xg{h:aE}{b c}{o:AO}(n:¬c=b:=by omega):N (aI h b o) c=N h c:=by rw[aj,ak n]
theorem Sr{h b o}:N (aI h b o) b=J o:=by rw[aj,au Z]
def pX(t:BT u)(i j v):X (sset t i v) j=if j=i then v else X t j:=by
 unfold X sset;have:(BT.set (i+1) t i v).get j=if j=i then J v else t.get j:=by
  obtain D|rfl:=BT.EF i;.exact BT.CW _ _ _ _ _ D
  .rw[BT.C5];cases j with
   |zero=>simp[BT.wC,BT.val]
   |succ m=>simp[BT.wQ,BT.left,BT.right]
 rw[this];by_cases h:j=i<;>simp[h]
def Ed(i):X .nil i= .g undef:=rfl
structure dI where
 m:Nat->Option (Nat×Nat)
 hd:Nat->Nat->Option Value
instance:CoeFun dI (λ_=>Nat->Option (Nat×Nat)):=⟨dI.m⟩
def dI.upd(r:dI)(b:Nat)(x:Nat×Nat):dI:=⟨λc=>if c=b then J x else r c,r.hd⟩
def dI.le(r r':dI):Prop:=(∀b x,r b=J x->r' b=J x)/\∀k o v,r.hd k o=J v->r'.hd k o=J v
def dI.le_refl(r):dI.le r r:=⟨λ_ _ h=>h,λ_ _ _ h=>h⟩
def dI.le_trans{a b c}(h:dI.le a b)(k:dI.le b c):dI.le a c:=⟨λ_ _ e=>k.1 _ _ (h.1 _ _ e),λ_ _ _ e=>k.2 _ _ _ (h.2 _ _ _ e)⟩
def dI.vR{r}{x:Nat×Nat}(h:r b=B):dI.le r (r.upd b x):=by
 refine⟨?_,λ_ _ _ h=>h⟩;intro c y e;unfold dI.upd;by_cases A:c=b;.subst A;rw[h]at e;cases e
 .simp[A,e]
def dI.iT(r:dI)(b:Nat)(x:Nat×Nat):r.upd b x b=J x:=by simp[dI.upd]
def dI.kP(r:dI)(x:Nat×Nat)(h:c≠b):r.upd b x c=r c:=by simp[dI.upd,h]
mutual
inductive VR(r:dI):u->Value->Prop
 |g (v:Value):VR r (.g v) v
 |ptr {b off k n:Nat} (h:r b=J (k,n)):VR r (.ptr b off) (.pointer (J ⟨k,off,B⟩))
 |sl {b off len cap k n:Nat} (h:r b=J (k,n)):VR r (.sl b off len cap) (.slice (J ⟨k,off,B⟩) len cap)
 |og {b off j len k n:Nat} (h:r b=J (k,n)) (hn:j+len<=n):VR r (.og b off j len) (.slice (J ⟨k,off,B⟩) len (n-j))
 |sle {a:Addr} {c:Nat}:VR r .sle (.slice (J a) 0 c)
 |mp {b k n:Nat} (h:r b=J (k,n)):VR r (.mp b) (.map (J k))
 |um {b k n:Nat} (h:r b=J (k,n)):VR r (.um b) (.func (.yield k) #[] #[])
 |EM:VR r (.fz 0 []) (.slice B 0 0)
 |Ee {a:Addr} {c:Nat}:VR r (.fz 0 []) (.slice (J a) 0 c)
 |fz {k off len cap:Nat} {cs:List u} {vs:List Value} (h:∀i v,vs[i]?=J v->r.hd k (off+i)=J v) (A:len<=cap) (hv:fv r cs vs):VR r (.fz len cs) (.slice (J ⟨k,off,B⟩) len cap)
 |N9:VR r .e0 (.slice B 0 0)
 |Pu {a:Addr}:VR r .e0 (.slice (J a) 0 0)
 |fp {k off:Nat} {cs:List u} {vs:List Value} (h:∀i v,vs[i]?=J v->r.hd k (off+i)=J v) (hv:fv r cs vs):VR r (.fp cs) (.pointer (J ⟨k,off,B⟩))
 |fi {k off:Nat} {cs:List u} {vs:List Value} (h:∀i v,vs[i]?=J v->r.hd k (off+i)=J v) (hv:fv r cs vs):VR r (.fi k off cs) (.pointer (J ⟨k,off,B⟩))
 |fn {f:FuncId} {cap:List u} {c:List Value} (h:fv r cap c):VR r (.fn f cap) (.func (.func f) #[] c.toArray)
 |lP {t:TypeId} {v:u} {AV:Value} (h:VR r v AV):VR r (.lP t v) (.iface t AV)
 |agg {cs:List u} {c:List Value} (h:fv r cs c):VR r (.agg cs) (.agg c.toArray)
 |dY {cs:List u} {c:List Value} (h:fv r cs c):VR r (.dY cs) (.tuple c.toArray)
inductive fv(r:dI):List u->List Value->Prop
 |nil:fv r [] []
 |cons {a:u} {v:Value} {as:List u} {vs:List Value} (h:VR r a v) (t:fv r as vs):fv r (a::as) (v::vs)
end
mutual
def VR.mono{r r'}(h:dI.le r r'):∀{a:u} {v:Value},VR r a v->VR r' a v
 |_,_,.g v=> .g v
 |_,_,.ptr e=> .ptr (h.1 _ _ e)
 |_,_,.sl e=> .sl (h.1 _ _ e)
 |_,_,.og e l=> .og (h.1 _ _ e) l
 |_,_,.sle=> .sle
 |_,_,.mp e=> .mp (h.1 _ _ e)
 |_,_,.um e=> .um (h.1 _ _ e)
 |_,_,.EM=> .EM
 |_,_,.N9=> .N9
 |_,_,.Pu=> .Pu
 |_,_,.Ee=> .Ee
 |_,_,.fz e c t=> .fz (λi v q=>h.2 _ _ _ (e i v q)) c (fv.mono h t)
 |_,_,.fp e t=> .fp (λi v q=>h.2 _ _ _ (e i v q)) (fv.mono h t)
 |_,_,.fi e t=> .fi (λi v q=>h.2 _ _ _ (e i v q)) (fv.mono h t)
 |_,_,.fn e=> .fn (fv.mono h e)
 |_,_,.lP e=> .lP (VR.mono h e)
 |_,_,.agg e=> .agg (fv.mono h e)
 |_,_,.dY e=> .dY (fv.mono h e)
def fv.mono{r r'}(h:dI.le r r'):∀{a:List u} {v:List Value},fv r a v->fv r' a v
 |_,_,.nil=> .nil
 |_,_,.cons e t=> .cons (VR.mono h e) (fv.mono h t)
end
def fv.length{r:dI}:∀{a:List u} {v:List Value},fv r a v->a.length=v.length
 |_,_,.nil=>rfl
 |_,_,.cons _ t=>by simp[fv.length t]
def fv.append{r}:∀{a a':List u} {v v':List Value},fv r a v->fv r a' v'->fv r (a++a') (v++v')
 |_,_,_,_,.nil,h=>h
 |_,_,_,_,.cons e t,h=> .cons e (fv.append t h)
def fv.get{r}:∀{a:List u} {v:List Value},fv r a v->∀{i:Nat} {x:u},a[i]?=J x->∃y,v[i]?=J y/\VR r x y
 |_,_,.nil,_,_,h=>by simp at h
 |_,_,.cons e t,0,x,h=>by simp at h;subst h;exact⟨_,Z,e⟩
 |_,_,.cons e t,i+1,x,h=>by simp only[se]at h⊢;exact fv.get t h
def fv.drop{r}:∀{a:List u} {v:List Value},fv r a v->∀n,fv r (a.drop n) (v.drop n)
 |_,_,h,0=>h
 |_,_,.nil,_+1=> .nil
 |_,_,.cons _ t,n+1=>fv.drop t n
def fv.take{r}:∀{a:List u} {v:List Value},fv r a v->∀n,fv r (a.take n) (v.take n)
 |_,_,_,0=>by simpa using fv.nil
 |_,_,.nil,_+1=> .nil
 |_,_,.cons e t,n+1=> .cons e (fv.take t n)
def fv.Jn{r}:∀(l:List Value),fv r (l.map .g) l
 |[]=> .nil
 |v::l=> .cons (.g v) (fv.Jn l)
def fv.rep{r a v}(h:fv r a v):∀n,fv r (gT n a) (gT n v)
 |0=> .nil
 |n+1=>h.append (fv.rep h n)
def fv.map{r}{α:Type}(f:α->u)(g:α->Value):∀(l:List α),(∀x∈l,VR r (f x) (g x))->fv r (l.map f) (l.map g)
 |[],_=> .nil
 |x::l,h=> .cons (h x bR) (fv.map f g l λy hy=>h y (by simp[hy]))
def fv.mem{r}:∀{a:List u} {v:List Value},fv r a v->∀y∈v,∃x∈a,VR r x y
 |_,_,.nil,_,h=>by cases h
 |_,_,.cons e t,y,h=>by
  obtain rfl|h:=bJ.1 h;.exact⟨_,bR,e⟩
  .have⟨x,L,hv⟩:=fv.mem t y h;exact⟨x,by simp[L],hv⟩
def xi{α:Type}:∀(n:Nat) (l:List α),iS n l=l[n]?
 |_,[]=>by simp;rfl
 |0,_::_=>rfl
 |n+1,_::l=>by show iS n l=_;simp[xi n l]
def rW{α:Type}:∀(n:Nat) (l r:List α),dC n l=J r->r=l.take n/\n<=O l
 |0,_,_,h=>by have h:J []=J _:=h;injection h with h;simp[<-h]
 |n+1,[],_,h=>by have h:B=J _:=h;cases h
 |n+1,a::l,r,h=>by
  have h:Option.rec (motive:=λ_=>Option (List α)) B (λr=>J (a::r)) (dC n l)=J r:=h;cases hq:dC n l with
  |none=>rw[hq]at h;cases h
  |some q=>rw[hq]at h;have h:J (a::q)=J r:=h;have⟨W,F⟩:=rW n l q hq;cases h;simp[W];exact F
def tY{α:Type}:∀(n:Nat) (l r:List α),dV n l=J r->r=l.drop n/\n<=O l
 |0,l,_,h=>by have h:J l=J _:=h;injection h with h;simp[<-h]
 |n+1,[],_,h=>by have h:B=J _:=h;cases h
 |n+1,a::l,r,h=>by have⟨W,F⟩:=tY n l r h;simp[W];exact F
def uD{α:Type}:∀(n:Nat) (l vs r:List α),eG n l vs=J r->r=l.take n++vs++l.drop (n+O vs)/\n+O vs<=O l
 |0,[],[],r,h=>by have h:J []=J r:=h;injection h with h;simp[<-h]
 |0,a::l,[],r,h=>by have h:J (a::l)=J r:=h;injection h with h;simp[<-h]
 |0,a::l,v::vs,r,h=>by
  have h:Option.rec (motive:=λ_=>Option (List α)) B (λr=>J (v::r)) (eG 0 l vs)=J r:=h;cases hq:eG 0 l vs with
  |none=>rw[hq]at h;cases h
  |some q=>
   rw[hq]at h;have h:J (v::q)=J r:=h;have⟨W,F⟩:=uD 0 l vs q hq;cases h;refine⟨?_,by simp at F⊢;omega⟩;have ki:q=vs++l.drop (O vs):=Mf W
   rw[ki];simp
 |0,[],_::_,r,h=>by have h:B=J r:=h;cases h
 |n+1,[],vs,r,h=>by have h:B=J r:=h;cases h
 |n+1,a::l,vs,r,h=>by
  have h:Option.rec (motive:=λ_=>Option (List α)) B (λr=>J (a::r)) (eG n l vs)=J r:=h;cases hq:eG n l vs with
  |none=>rw[hq]at h;cases h
  |some q=>rw[hq]at h;have h:J (a::q)=J r:=h;have⟨W,F⟩:=uD n l vs q hq;cases h;refine⟨?_,gr⟩;rw[W];simp[Nat.add_right_comm n 1]
def vS{α:Type}(l:List α):∀n,O (gT n l)=n*O l
 |0=>by simp[gT]
 |n+1=>by simp[gT,vS l n,qi,kV]
def OQ{α:Type}(f:α->α):∀(n:Nat) (l:List α),Td f n l=l.modify n f
 |_,[]=>by simp[Td]
 |0,_::_=>rfl
 |n+1,_::l=>by simp[Td,OQ f n l]
mutual
def kq{r}:∀(a:u) (v AV:Value),a.pV=J v->VR r a AV->AV=v
 | .g w,v,AV,h,hv=>by cases hv;simp[u.pV]at h;exact h
 | .ptr ..,_,_,h,_=>by simp[u.pV]at h
 | .sl ..,_,_,h,_=>by simp[u.pV]at h
 | .og ..,_,_,h,_=>by simp[u.pV]at h
 | .sle,_,_,h,_=>by simp[u.pV]at h
 | .mp _,_,_,h,_=>by simp[u.pV]at h
 | .um _,_,_,h,_=>by simp[u.pV]at h
 | .fz ..,_,_,h,_=>by simp[u.pV]at h
 | .fp _,_,_,h,_=>by simp[u.pV]at h
 | .fi ..,_,_,h,_=>by simp[u.pV]at h
 | .e0,_,_,h,_=>by simp[u.pV]at h
 | .fn ..,_,_,h,_=>by simp[u.pV]at h
 | .lP t a,v,AV,h,hv=>by
  cases hv with
  |lP hv=>
   simp only[u.pV]at h;split at h
   .rename_i w hw;injection h with h;subst h
    rw[kq a w _ hw hv]
   .cases h
 | .agg cs,v,AV,h,hv=>by
  cases hv with
  |agg hv=>
   simp only[u.pV]at h;split at h
   .rename_i w hw;injection h with h;subst h
    rw[Dd cs w _ hw hv]
   .cases h
 | .dY _,_,_,h,_=>by simp[u.pV]at h
def Dd{r}:∀(a:List u) (v AV:List Value),u.FH a=J v->fv r a AV->AV=v
 |[],v,AV,h,hv=>by cases hv;simp[u.FH]at h;exact h.symm▸rfl
 |a::as,v,AV,h,hv=>by
  cases hv with
  |cons hv ht=>
   simp only[u.FH]at h;split at h
   .rename_i w hw;split at h
    .rename_i l K;injection h with h;subst h
     rw[kq a w _ hw hv,Dd as l _ K ht]
    .cases h
   .cases h
end
def wG{r}(h:a.cells=J cs)(hv:VR r a AV):fv r cs AV.cells.toList:=by
 cases hv with
 |g=>
  cases AV<;>simp only[u.cells,bF]at h<;>first|(subst h;exact .cons (.g _) .nil)|skip
  case agg c=>subst h;exact fv.Jn _
  case tuple=>cases h
 |agg hv=>simp only[u.cells,bF]at h;subst h;simpa[Value.cells]using hv
 |dY hv=>simp[u.cells]at h
 |ptr e=>simp only[u.cells,bF]at h;subst h;exact .cons (.ptr e) .nil
 |sl e=>simp only[u.cells,bF]at h;subst h;exact .cons (.sl e) .nil
 |og e l=>simp only[u.cells,bF]at h;subst h;exact .cons (.og e l) .nil
 |sle=>simp only[u.cells,bF]at h;subst h;exact .cons .sle .nil
 |N9=>simp only[u.cells,bF]at h;subst h;exact .cons .N9 .nil
 |Pu=>simp only[u.cells,bF]at h;subst h;exact .cons .Pu .nil
 |EM=>simp only[u.cells,bF]at h;subst h;exact .cons .EM .nil
 |Ee=>simp only[u.cells,bF]at h;subst h;exact .cons .Ee .nil
 |fz e c t=>simp only[u.cells,bF]at h;subst h;exact .cons (.fz e c t) .nil
 |fp e t=>simp only[u.cells,bF]at h;subst h;exact .cons (.fp e t) .nil
 |fi e t=>simp only[u.cells,bF]at h;subst h;exact .cons (.fi e t) .nil
 |mp e=>simp only[u.cells,bF]at h;subst h;exact .cons (.mp e) .nil
 |um e=>simp only[u.cells,bF]at h;subst h;exact .cons (.um e) .nil
 |fn e=>simp only[u.cells,bF]at h;subst h;exact .cons (.fn e) .nil
 |lP e=>simp only[u.cells,bF]at h;subst h;exact .cons (.lP e) .nil
def yO{r}(h:a.dh=M)(hv:VR r a AV):AV.oneCell'=M:=by
 cases hv with
 |g=>cases AV<;>simp_all[u.dh,Value.oneCell']
 |agg _=>simp[u.dh]at h
 |dY _=>simp[u.dh]at h
 |_=>rfl
mutual
def Gw(a b)(h:XT a b=M):a=b:=by
 match a,b,h with
 | .bool a,.bool b,h=>simp[XT]at h;rw[h]
 | .int k a,.int k' b,h=>simp[XT]at h;rw[h.1,h.2]
 | .string ⟨⟨a⟩⟩,.string ⟨⟨b⟩⟩,h=>simp[XT]at h;rw[h]
 | .pointer B,.pointer B,_=>rfl
 | .pointer (J a),.pointer (J b),h=>simp[XT]at h;rw[h]
 | .slice B a b,.slice B c d,h=>simp[XT]at h;rw[h.1,h.2]
 | .map B,.map B,_=>rfl
 | .nilFunc,.nilFunc,_=>rfl
 | .nilIface,.nilIface,_=>rfl
 | .func (.func f) ⟨[]⟩ ⟨[]⟩,.func (.func g) ⟨[]⟩ ⟨[]⟩,h=>simp[XT]at h;rw[h]
 | .tuple ⟨[]⟩,.tuple ⟨[]⟩,_=>rfl
 | .agg ⟨a⟩,.agg ⟨b⟩,h=>rw[C4 a b (by simpa[XT]using h)]
def C4:∀(a b:List Value),Qc a b=M->a=b
 |[],[],_=>rfl
 |[],_::_,h=>by simp[Qc]at h
 |_::_,[],h=>by simp[Qc]at h
 |a::as,b::bs,h=>by simp only[Qc,aS]at h;rw[Gw a b h.1,C4 as bs h.2]
end
mutual
def uv:∀(a b:u),tZ a b=M->a=b
 | .g a,b,h=>by cases b<;>simp[tZ]at h;rw[Gw _ _ h]
 | .ptr ..,b,h=>by cases b<;>simp_all[tZ]
 | .sl ..,b,h=>by cases b<;>simp_all[tZ]
 | .og ..,b,h=>by cases b<;>simp_all[tZ]
 | .sle,b,h=>by cases b<;>simp_all[tZ]
 | .mp _,b,h=>by cases b<;>simp_all[tZ]
 | .um _,b,h=>by cases b<;>simp_all[tZ]
 | .fz n c,b,h=>by cases b<;>simp[tZ]at h;rw[h.1,lK _ _ h.2]
 | .fp c,b,h=>by cases b<;>simp[tZ]at h;rw[lK _ _ h]
 | .fi k o c,b,h=>by cases b<;>simp[tZ]at h;rw[h.1.1,h.1.2,lK _ _ h.2]
 | .e0,b,h=>by cases b<;>simp_all[tZ]
 | .fn f c,b,h=>by cases b<;>simp[tZ]at h;rw[h.1,lK _ _ h.2]
 | .lP t a,b,h=>by cases b<;>simp[tZ]at h;rw[h.1,uv _ _ h.2]
 | .agg cs,b,h=>by cases b<;>simp[tZ]at h;rw[lK _ _ h]
 | .dY cs,b,h=>by cases b<;>simp[tZ]at h;rw[lK _ _ h]
def lK:∀(a b:List u),uY a b=M->a=b
 |[],[],_=>rfl
 |[],_::_,h=>by simp[uY]at h
 |_::_,[],h=>by simp[uY]at h
 |a::as,b::bs,h=>by simp only[uY,aS]at h;rw[uv a b h.1,lK as bs h.2]
end
def NA(a b)(h:afZ a b=M):a=b:=by
 unfold afZ at h;split at h;.simp only[aS,kN]at h;rw[h.1,lK _ _ h.2]
 .rfl
 .cases h
def je(k:IntKind)(n):cO k n=k.wrap n:=by
 unfold cO;cases k<;>try rfl
 simp only;split;.rename_i h;simp only[TY,aS,fK]at h;rw[IntKind.wrap_i64];omega
 .rfl
def jy{α:Type}(P):∀(s:Sem α) (a:α),bM P s=J a->∀w,s.run P w= .ok a w
 | .pure b,a,h,w=>by simp[bM]at h;simp[Sem.run,h]
 | .program k,a,h,w=>by simp only[bM]at h;simp only[Sem.run];exact jy P (k P) a h w
 | .mark m k,a,h,w=>by simp only[bM]at h;simp only[Sem.run];exact jy P k a h w
 | .load ..,_,h,_=>by simp[bM]at h
 | .store ..,_,h,_=>by simp[bM]at h
 | .new ..,_,h,_=>by simp[bM]at h
 | .shape ..,_,h,_=>by simp[bM]at h
 | .freeze ..,_,h,_=>by simp[bM]at h
 | .frozen ..,_,h,_=>by simp[bM]at h
 | .getObj ..,_,h,_=>by simp[bM]at h
 | .setObj ..,_,h,_=>by simp[bM]at h
 | .choose ..,_,h,_=>by simp[bM]at h
 | .sys ..,_,h,_=>by simp[bM]at h
 | .halt ..,_,h,_=>by simp[bM]at h
variable{d k m n n' Y E:Nat}{h Q:aE}{o':AO}{r:dI}{us:List Value}{vs:List u}{w w' w0:World}
inductive DR(r:dI):AD->Deferred->Prop
 |fn {f:FuncId} {cap args:List u} {c as:List Value} (h:fv r cap c) (Q:fv r args as):DR r (.fn f cap args) {target:= .fn (.func f) c.toArray,args:=as.toArray}
 |xF {b k n:Nat} (h:r b=J (k,n)):DR r (.xF b) {target:= .collected k,args:= #[]}
def DR.mono{r r':dI}(h:dI.le r r'){a:AD}{d:Deferred}:DR r a d->DR r' a d
 | .fn e e'=> .fn (e.mono h) (e'.mono h)
 | .xF e=> .xF (h.1 _ _ e)
inductive Gy(r:dI):List AD->List Deferred->Prop
 |nil:Gy r [] []
 |cons {a:AD} {d:Deferred} {as:List AD} {ds:List Deferred} (h:DR r a d) (t:Gy r as ds):Gy r (a::as) (d::ds)
def Gy.mono{r r':dI}(h:dI.le r r'):∀{a:List AD} {d:List Deferred},Gy r a d->Gy r' a d
 |_,_,.nil=> .nil
 |_,_,.cons e t=> .cons (e.mono h) (t.mono h)
def Gy.append{r:dI}:∀{a a':List AD} {v v':List Deferred},Gy r a v->Gy r a' v'->Gy r (a++a') (v++v')
 |_,_,_,_,.nil,h=>h
 |_,_,_,_,.cons e t,h=> .cons e (Gy.append t h)
def TR(r:dI)(t:BT u)(a:Array Value):Prop:=∀i,VR r (X t i) (a.getD i undef)
def TR.mono{r r'}(h:dI.le r r'){t:BT u}{a}(e:TR r t a):TR r' t a:=λi=>(e i).mono h
def TR.set{t:BT u}{a}(e:TR r t a)(z:d<a.size){v}(hv:VR r v AV):TR r (sset t d v) (a.setIfInBounds d AV):=by
 intro i;rw[pX];by_cases h:i=d;.subst h;simpa[z]using hv
 .have:=e i;simp only[h,cU];simpa[fN,tH (Ne.symm h)]using this
inductive xE(r:dI):List (u×u×Nat)->List MapEntry->Prop
 |nil:xE r [] []
 |cons {k v:u} {n:Nat} {k' v':Value} {as:List (u×u×Nat)} {ms:List MapEntry} (hk:VR r k k') (hv:VR r v v') (t:xE r as ms):xE r ((k,v,n)::as) ({key:=k',val:=v',born:=n}::ms)
def xE.mono{r r'}(h:dI.le r r'):∀{a:List (u×u×Nat)} {d:List MapEntry},xE r a d->xE r' a d
 |_,_,.nil=> .nil
 |_,_,.cons e e' t=> .cons (e.mono h) (e'.mono h) (t.mono h)
def xE.length{r:dI}:∀{a:List (u×u×Nat)} {d:List MapEntry},xE r a d->a.length=d.length
 |_,_,.nil=>rfl
 |_,_,.cons _ _ t=>by simp[xE.length t]
def xE.push{r k v n k' v'}(hk:VR r k k')(hv:VR r v v'):∀{a:List (u×u×Nat)} {d:List MapEntry},xE r a d->xE r (a++[(k,v,n)]) (d++[{key:=k',val:=v',born:=n}])
 |_,_,.nil=> .cons hk hv .nil
 |_,_,.cons a b t=> .cons a b (xE.push hk hv t)
def xE.modify{r k v k' v'}(hk:VR r k k')(hv:VR r v v'):∀{a:List (u×u×Nat)} {d:List MapEntry},xE r a d->∀i,xE r (a.modify i λe=>(k,v,e.2.2)) (d.modify i λe=>{e with key:=k',val:=v'})
 |_,_,.nil,i=>by simpa using xE.nil
 |_,_,.cons a b t,0=> .cons hk hv t
 |_,_,.cons a b t,i+1=> .cons a b (xE.modify hk hv t i)
def LR(r:dI)(l:nR)(x:Loop):Prop:=
 x.state=l.state/\x.pending=l.pending/\x.fn=l.fn/\TR r l.cX x.tmps/\x.tmps.size=l.size/\x.params.toList=l.params/\x.assign=l.assign/\x.body=l.body/\∃n,r l.defers=J (x.defers,n)
def LR.mono{r r'}(h:dI.le r r'){l}{x:Loop}(e:LR r l x):LR r' l x:=by have⟨a,b,c,d,f,g,i,j,n,k⟩:=e;exact⟨a,b,c,d.mono h,f,g,i,j,n,h.1 _ _ k⟩
def OR(r:dI)(o:AO)(n:Nat)(x:Option Obj):Prop:=
 match o with
 | .cells cs e=>∃c,x=J (.cells c.toArray e (0,0))/\fv r cs c
 | .fM cs e es=>∃c c',x=J (.cells (c++c').toArray e (0,0))/\fv r cs c/\O (c++c')=n*es
 | .map es clock=>∃l,x=J (.map l.toArray clock)/\xE r es l
 | .loop l=>∃y,x=J (.loop y)/\LR r l y
 | .defs B=>x=J (.deferred B)
 | .defs (J ds)=>∃l,x=J (.deferred (J l))/\Gy r ds l
 | .it b=>∃k q s seen last,r b=J (k,q)/\x=J (.mapIter (J k) s seen last)
 | .dead=>True
def OR.mono{r r'}(h:dI.le r r'){o n x}(e:OR r o n x):OR r' o n x:=by
 cases o with
 |cells cs el=>have⟨c,e,v⟩:=e;exact⟨c,e,v.mono h⟩
 |fM cs el es=>have⟨c,c',e,v,l⟩:=e;exact⟨c,c',e,v.mono h,l⟩
 |map es cl=>have⟨l,e,v⟩:=e;exact⟨l,e,v.mono h⟩
 |loop l=>have⟨y,e,v⟩:=e;exact⟨y,e,v.mono h⟩
 |defs c=>
  cases c with
  |none=>exact e
  |some ds=>have⟨l,e,v⟩:=e;exact⟨l,e,v.mono h⟩
 |it b=>have⟨k,q,s,seen,last,a,b⟩:=e;exact⟨k,q,s,seen,last,h.1 _ _ a,b⟩
 |dead=>trivial
def AO.live:AO->Prop
 | .dead=>False
 |_=>True
def Frz(r:dI)(h:aE)(w:World):Prop:=
 ∀k o v,r.hd k o=J v->w.cell? ⟨k,o,B⟩=J v/\∀b n q,r b=J (k,n)->N h b=J q->¬q.live
structure HR(r:dI)(h:aE)(next:Nat)(w0 w:World):Prop where
 below:Below w0.heap.size w0 w
 tG:Frz r h w
 zX:∀b x,r b=J x->b<next/\w0.heap.size<=x.1/\x.1<w.heap.size
 obj:∀b o k n,N h b=J o->r b=J (k,n)->OR r o n w.heap[k]?
 inj:∀b b' o o' k n n',N h b=J o->N h b'=J o'->o.live->o'.live->r b=J (k,n)->r b'=J (k,n')->b=b'
def HR.fresh(hr:HR r h Y w0 w)(D:Y<=b):r b=B:=by
 cases e:r b with
 |none=>rfl
 |some x=>exact absurd (hr.zX b x e).1 U
def dI.none:dI:=⟨λ_=>Option.none,λ_ _=>Option.none⟩
def HR.start(w):HR dI.none .nil 0 w w:=
 ⟨Below.refl _ _,λ_ _ _ h=>(by cases h),λ_ _ h=>(by cases h),λ_ _ _ _ _ h=>(by cases h),λ_ _ _ _ _ _ _ _ _ _ _ h=>(by cases h)⟩
def yb(h:w'.heap[k]?=w.heap[k]?)(o):w'.cell? ⟨k,o,B⟩=w.cell? ⟨k,o,B⟩:=by simp only[World.cell?,h]
def Ok{o v}(h:w.cell? ⟨k,o,B⟩=J v):k<w.heap.size:=by apply cJ;intro hn;have:w.heap[k]?=Option.none:=Array.getElem?_eq_none U;simp[World.cell?,this]at h
def HR.drew(hr:HR r h Y w0 w):HR r h Y w0 {w with drawn:=w.drawn+1}:=
 ⟨⟨hr.below.os,hr.below.tape,hr.below.output,hr.below.size,hr.below.block⟩,hr.tG,hr.zX,hr.obj,hr.inj⟩
def HR.next(hr:HR r h Y w0 w)(hn:Y<=E):HR r h E w0 w:=
 ⟨hr.below,hr.tG,λb x e=>⟨aP (hr.zX b x e).1 hn,(hr.zX b x e).2⟩,hr.obj,hr.inj⟩
def HR.heap(hr:HR r h Y w0 w)(hh:∀b x,r b=J x->N Q b=N h b):HR r Q Y w0 w:=
 ⟨hr.below,λk o v e=>⟨(hr.tG k o v e).1,λb n q e1 e2=>(hr.tG k o v e).2 b n q e1 ((hh b _ e1)▸e2)⟩,hr.zX,λb o k n e e'=>hr.obj b o k n ((hh b _ e')▸e) e',
  λb b' o o' k n n' e e' l l' f f'=>hr.inj b b' o o' k n n' ((hh b _ f)▸e) ((hh b' _ f')▸e') l l' f f'⟩
structure Hk(w w':World)(k:Nat)(obj:Obj):Prop where
 os:w'.os=w.os
 tape:w'.tape=w.tape
 output:w'.output=w.output
 size:w'.heap.size=w.heap.size
 other:∀j,j≠k->w'.heap[j]?=w.heap[j]?
 this:w'.heap[k]?=J obj
def HR.set(hr:HR r h Y w0 w)(D:r b=J (k,n)){o}(ho:N h b=J o)(K:o.live)
 {obj} (Va:OR r o' n (J obj)) (ht:Hk w w' k obj):HR r (aI h b o') Y w0 w':=by
 have hk:=hr.zX b _ D;refine⟨⟨ht.os.trans hr.below.os,ht.tape.trans hr.below.tape,ht.output.trans hr.below.output,by rw[ht.size];exact hr.below.size,λj hj=>?_⟩,λk' o1 v1 e1=>⟨?_,λc n1 q e2 e3 l3=>?_⟩,λc x e=>?_,λc q k' n' e e'=>?_,λc c' q q' k' n₁ n₂ e e' l l' f f'=>?_⟩;.rw[ht.other j (by simp at hk;omega)];exact hr.below.block j hj
 .rw[yb (ht.other k' (λe2=>(hr.tG k' o1 v1 e1).2 b n o (e2▸D) ho K))];exact(hr.tG k' o1 v1 e1).1
 .rw[aj]at e3;by_cases A:c=b;.subst A;exact(hr.tG k' o1 v1 e1).2 c n1 o e2 ho K
  .simp only[A,cU]at e3;exact(hr.tG k' o1 v1 e1).2 c n1 q e2 e3 l3
 .have:=hr.zX c x e;rw[ht.size];exact this
 .rw[aj]at e;by_cases A:c=b
  .subst A;rw[D]at e';injection e' with e';injection e' with e1 e2;subst e1;subst e2
   simp at e;subst e;rw[ht.this];exact Va
  .simp only[A,cU]at e;by_cases CT:k'=k
   .subst CT;cases q with
    |dead=>trivial
    |_=>exact absurd (hr.inj c b _ _ k' n' n e ho trivial K e' D) A
   .rw[ht.other k' CT];exact hr.obj c q k' n' e e'
 .rw[aj]at e e';have L:∃p,N h c=J p/\p.live:=by
   by_cases A:c=b;.subst A;exact⟨o,ho,K⟩
   .simp only[A,cU]at e;exact⟨q,e,l⟩
  have hy:∃p,N h c'=J p/\p.live:=by
   by_cases A:c'=b;.subst A;exact⟨o,ho,K⟩
   .simp only[A,cU]at e';exact⟨q',e',l'⟩
  have⟨p,hp,lp⟩:=L;have⟨p',Jf,lp'⟩:=hy;exact hr.inj c c' p p' k' n₁ n₂ hp Jf lp lp' f f'
def HR.alloc(hr:HR r h Y w0 w){id}(Jg:r id=B)(dc:id<E)(hle:Y<=E)
 {o obj} (ho:N Q id=J o) (hh:∀b x,r b=J x->N Q b=N h b) (Va:OR r o n (J obj)):
 HR (r.upd id (w.heap.size,n)) Q E w0 {w with heap:=w.heap.push obj}:=by
 have Ui:=dI.vR (x:=(w.heap.size,n)) Jg;refine⟨⟨hr.below.os,hr.below.tape,hr.below.output,?_,λj hj=>?_⟩,λk' o1 v1 e1=>⟨?_,λc n1 q e2 e3 l3=>?_⟩,λc x e=>?_,λc q k' n' e e'=>?_,λc c' q q' k' n₁ n₂ e e' l l' f f'=>?_⟩;.have:=hr.below.size;simp;omega
 .have:=hr.below.size;show(w.heap.push obj)[j]?=_;rw[wN,ak U];exact hr.below.block j hj
 .have W:=(hr.tG k' o1 v1 e1).1;have F:=Ok W;rw[yb (w:=w) (by show(w.heap.push obj)[k']?=_;rw[wN,ak U])];exact W
 .by_cases A:c=id
  .subst A;rw[dI.iT]at e2;injection e2 with e2;injection e2 with e2 _
   have F:=Ok (hr.tG k' o1 v1 e1).1;omega
  .rw[dI.kP _ _ A]at e2;exact(hr.tG k' o1 v1 e1).2 c n1 q e2 ((hh c _ e2)▸e3) l3
 .by_cases A:c=id;.subst A;rw[dI.iT]at e;cases e;have:=hr.below.size;exact⟨dc,this,bR⟩
  .rw[dI.kP _ _ A]at e;have:=hr.zX c x e;refine⟨U,this.2.1,?_⟩;have:=this.2.2;simp;omega
 .by_cases A:c=id
  .subst A;rw[dI.iT]at e';injection e' with e';injection e' with e1 e2;subst e1;subst e2
   rw[ho]at e;cases e;rw[wN,au Z];exact Va.mono Ui
  .rw[dI.kP _ _ A]at e';have:=(hr.zX c _ e').2.2;simp only at this;rw[wN,ak U];exact(hr.obj c q k' n' ((hh c _ e')▸e) e').mono Ui
 .by_cases A:c=id<;>by_cases yi:c'=id;.rw[A,yi]
  .subst A;rw[dI.iT]at f;injection f with f;injection f with f1 f2
   rw[dI.kP _ _ yi]at f';have:=(hr.zX c' _ f').2.2;simp at this;omega
  .subst yi;rw[dI.iT]at f';injection f' with f';injection f' with f1 f2
   rw[dI.kP _ _ A]at f;have:=(hr.zX c _ f).2.2;simp at this;omega
  .rw[dI.kP _ _ A]at f;rw[dI.kP _ _ yi]at f';exact hr.inj c c' q q' k' n₁ n₂ ((hh c _ f)▸e) ((hh c' _ f')▸e') l l' f f'
def HR.DL(hr:HR r h Y w0 w)(D:r b=J (k,n)){o}(ho:N h b=J o)(K:o.live)(hn:b≠Y)
  {obj} (Va:OR r o' n' (J obj)) (ht:Hk w w' k obj):
 HR (r.upd Y (k,n')) (aI (aI h b .dead) Y o') (Y+1) w0 w':=by
 have Ui:=dI.vR (x:=(k,n')) (hr.fresh (an _));have W:HR r (aI h b .dead) Y w0 w':=hr.set D ho K (o':= .dead) (n:=n) (obj:=obj) trivial ht;have hk:=hr.zX b _ D;refine⟨W.below,λk' o1 v1 e1=>⟨(W.tG k' o1 v1 e1).1,λc n1 q e2 e3 l3=>?_⟩,λc x e=>?_,λc q k' m e e'=>?_,λc c' q q' k' n₁ n₂ e e' l l' f f'=>?_⟩
 .by_cases A:c=Y
  .subst A;rw[dI.iT]at e2;injection e2 with e2;injection e2 with e2 _;subst e2
   exact(hr.tG _ o1 v1 e1).2 b n o D ho K
  .rw[dI.kP _ _ A]at e2;rw[aj]at e3;simp only[A,cU]at e3;exact(W.tG k' o1 v1 e1).2 c n1 q e2 e3 l3
 .by_cases A:c=Y;.subst A;rw[dI.iT]at e;cases e;refine⟨U,hk.2.1,?_⟩;rw[ht.size];exact hk.2.2
  .rw[dI.kP _ _ A]at e;have:=W.zX c x e;exact⟨U,this.2⟩
 .rw[aj]at e;by_cases A:c=Y
  .subst A;rw[dI.iT]at e';injection e' with e';injection e' with e1 e2;subst e1;subst e2
   simp at e;subst e;rw[ht.this];exact Va.mono Ui
  .simp only[A,cU]at e;rw[dI.kP _ _ A]at e';exact(W.obj c q k' m e e').mono Ui
 .rw[aj]at e e';have key:∀c q n₁,c≠Y->N (aI h b .dead) c=J q->q.live->r c=J (k,n₁)->False:=by
   intro c q n₁ A e l f;rw[aj]at e;by_cases NS:c=b;.subst NS;simp at e;subst e;exact l
   .simp only[NS,cU]at e;exact NS (hr.inj c b q o k n₁ n e ho l K f D)
  by_cases A:c=Y<;>by_cases yi:c'=Y;.rw[A,yi]
  .subst A;rw[dI.iT]at f;injection f with f;injection f with f1 f2;subst f1
   rw[dI.kP _ _ yi]at f';simp only[yi,cU]at e';exact(key c' q' n₂ yi e' l' f').elim
  .subst yi;rw[dI.iT]at f';injection f' with f';injection f' with f1 f2;subst f1
   rw[dI.kP _ _ A]at f;simp only[A,cU]at e;exact(key c q n₁ A e l f).elim
  .rw[dI.kP _ _ A]at f;rw[dI.kP _ _ yi]at f';simp only[A,cU]at e;simp only[yi,cU]at e';exact W.inj c c' q q' k' n₁ n₂ e e' l l' f f'
def HR.kill(hr:HR r h Y w0 w)(b):HR r (aI h b .dead) Y w0 w:=by
 refine⟨hr.below,λk' o1 v1 e1=>⟨(hr.tG k' o1 v1 e1).1,λc n1 q e2 e3 l3=>?_⟩,hr.zX,λc q k' m e e'=>?_,λc c' q q' k' n₁ n₂ e e' l l' f f'=>?_⟩
 .rw[aj]at e3;by_cases A:c=b;.simp[A]at e3;subst e3;exact l3.elim
  .simp only[A,cU]at e3;exact(hr.tG k' o1 v1 e1).2 c n1 q e2 e3 l3
 .rw[aj]at e;by_cases A:c=b;.simp[A]at e;subst e;trivial
  .simp only[A,cU]at e;exact hr.obj c q k' m e e'
 .rw[aj]at e e';have key:∀c q,(if c=b then J AO.dead else N h c)=J q->q.live->N h c=J q:=by
   intro c q e l;by_cases A:c=b;.simp[A]at e;subst e;exact l.elim
   .simpa[A]using e
  exact hr.inj c c' q q' k' n₁ n₂ (key c q e l) (key c' q' e' l') l l' f f'
def HR.cells{r h Y w0 w}(hr:HR r h Y w0 w){b k n}(D:r b=J (k,n)){o}(ho:N h b=J o){cs}(A:o.cells?=J cs):
 ∃c c' e,w.heap[k]?=J (.cells (c++c').toArray e (0,0))/\fv r cs c:=by
 have:=hr.obj b o k n ho D;cases o<;>simp[AO.cells?]at A;.have⟨c,e,v⟩:=this;subst A;exact⟨c,[],_,by simpa using e,v⟩
 .have⟨c,c',e,v,_⟩:=this;subst A;exact⟨c,c',_,e,v⟩
def AN(hr:HR r h Y w0 w){off:Nat}{vs:List Value}(hz:∀i v,vs[i]?=J v->r.hd k (off+i)=J v):
 ∀i v,vs[i]?=J v->w.cell? ⟨k,off+i,B⟩=J v:=λi v e=>(hr.tG _ _ _ (hz i v e)).1
def jN(k off i):(⟨k,off,B⟩:Addr).add i=⟨k,off+i,B⟩:=by unfold Addr.add;split<;>simp_all
def oL(hr:HR r h Y w0 w){off}(D:r b=J (k,m)){l}(K:dt h b off n=J l):
 ∃vs,fv r l vs/\O vs=n/\(∀(j:Nat) (v:Value),vs[j]?=J v->w.cell? ((⟨k,off,B⟩:Addr).add j)=J v)/\∃c e,w.heap[k]?=J (.cells c e (0,0))/\off+n<=c.size:=by
 unfold dt at K;split at K
 .rename_i o ho;split at K
  .rename_i cs A;have⟨c,c',e,hk,hv⟩:=hr.cells D ho A;split at K
   .rename_i q hq;obtain⟨rfl,W⟩:=tY _ _ _ hq;obtain⟨rfl,F⟩:=rW _ _ _ K;have cf:=hv.length;refine⟨(c.drop off).take n,(hv.drop off).take n,?_,λj v hj=>?_,_,e,hk,?_⟩;.simp at F⊢;omega
    .rw[jN];have Qi:c[off+j]?=J v:=by
      simp only[eQ,gh]at hj;split at hj;.exact hj
      .cases hj
     simp[World.cell?,hk,bX ((dD.1 Qi).1),Qi]
    .simp at F⊢;omega
   .cases K
  .cases K
 .cases K
def tz{c e}(hk:w.heap[k]?=J (.cells c e (0,0)))(c'):Hk w (w.setRow k c') k (.cells c' e (0,0)):=by refine⟨Z,Z,Z,by simp[World.setRow],λj hj=>?_,setRow_heap w k c c' e (0,0) hk⟩;simp only[World.setRow,Array.getElem?_modify];rw[ak (Ne.symm hj)]
def mS(P:Program)(hr:HR r h Y w0 w){off:Nat}(D:r b=some (k,m))(hv:fv r vs us)
 (W:∀AV∈us,AV.oneCell'=true) (G:fL h b off vs=some Q):
 ∃w',(storeCells ⟨k,off,none⟩ us).run P w= .ok () w'/\HR r Q Y w0 w'/\w'.heap.size=w.heap.size:=by
 have cf:=hv.length;unfold fL at G;split at G
 .rename_i cs e ho;obtain⟨c,hk,A⟩:=hr.obj b _ k m ho D;have zk:=A.length;split at G
  .rename_i q hq;injection G with G;subst G
   obtain⟨rfl,hle⟩:=uD _ _ _ _ hq;have eV:=run_storeCells_at P k off e us 0 c.toArray w hk gr W;refine⟨_,eV,hr.set D ho trivial (o':= .cells _ e) ⟨_,Z,?_⟩ (tz hk _),by simp[World.setRow]⟩;simp only[dP];exact((A.take _).append hv).append (cf▸A.drop _)
  .cases G
 .rename_i cs e es ho;obtain⟨c,c',hk,A,K⟩:=hr.obj b _ k m ho D;have zk:=A.length;split at G
  .rename_i q hq;injection G with G;subst G
   obtain⟨rfl,hle⟩:=uD _ _ _ _ hq;refine⟨_,run_storeCells_at P k off e us 0 (c++c').toArray w hk gr W,hr.set D ho trivial (o':= .fM _ e es) ⟨c.take off++us++c.drop (off+O us),c',?_,?_,?_⟩ (tz hk _),by simp[World.setRow]⟩
   .simp only[dP]
    congr 3
    simp[(aD U:(c++c').take off=c.take off),(cx U:(c++c').drop (off+O us)=c.drop (off+O us)++c')]
   .exact((A.take _).append hv).append (cf▸A.drop _)
   .simp at K⊢;omega
  .cases G
 .cases G
variable{t:TypeId}
section
variable{P:Program}
def xq{i:TypeInfo}(h:P.info? t=J i)(w):(typeInfo t).run P w= .ok i w:=by simp[typeInfo,h]
def eU(h:cZ P t=J n)(w):(sizeOf t).run P w= .ok n w:=by
 unfold cZ at h;split at h
 .rename_i i H;injection h with h
  simp[sizeOf,xq H,h]
 .cases h
def zK{b}(h:zE P t=J b)(w):(isAgg t).run P w= .ok b w:=by
 unfold zE at h;split at h;.rename_i fs hf;injection h with h;subst h;simp[isAgg,run_underlying hf]
 .rename_i n e hf;injection h with h;subst h;simp[isAgg,run_underlying hf]
 .rename_i d W F z;injection h with h;subst h
  simp only[isAgg,Sem.run_bind,run_underlying z,Result.andThen_ok];cases d<;>first|rfl|exact(W _ Z).elim|exact(F _ _ Z).elim
 .cases h
def oq{v}(h:nE P t=J v)(w):(zeroValue t).run P w= .ok v w:=by
 unfold nE at h;split at h;.rename_i i H;simp[zeroValue,xq H,h]
 .cases h
def yQ{l}(h:dS P t=J l):∃v,nE P t=J v/\v.cells.toList=l:=by
 unfold dS at h;unfold nE;split at h
 .rename_i i H;split at h
  .rename_i v hv;injection h with h
   exact⟨v,hv,h⟩
  .cases h
 .cases h
def MG(h:lO P t=J n)(w):∃i,(typeInfo t).run P w= .ok i w/\i.bytes=n:=by
 unfold lO at h;split at h
 .rename_i i H;injection h with h
  exact⟨i,xq H w,h⟩
 .cases h
end
def agG(hr:HR r h Y w0 w){off}(D:r b=J (k,m)){o}(ho:N h b=J o)(A:o.cells?=J cs)
 {v} (hv:iS off cs=J v):∃AV,w.cell? ⟨k,off,B⟩=J AV/\VR r v AV:=by
 have⟨c,c',e,hk,zU⟩:=hr.cells D ho A;rw[xi]at hv;have⟨AV,hu,P'⟩:=zU.get hv;have dc:=(dD.1 hu).1;exact⟨AV,by simp[World.cell?,hk,bX dc,hu],P'⟩
def BU(P)(hr:HR r h Y w0 w){v x}(L:VR r a x)(K:wu P h t a=J v):
 ∃k off AV,x= .pointer (J ⟨k,off,B⟩)/\(loadVar t ⟨k,off,B⟩).run P w= .ok AV w/\VR r v AV:=by
 unfold wu at K;split at K
 .rename_i b off;cases L with
  |ptr D=>
   rename_i k m;split at K
   .rename_i n ha G;split at K
    .rename_i l Jd;injection K with K;subst K
     have⟨vs,va,cf,kg,_⟩:=oL hr D Jd;refine⟨k,off,.agg vs.toArray,Z,?_,.agg va⟩;have:=run_loadCells_list (P:=P) w ⟨k,off,B⟩ vs kg;rw[cf]at this;simp[loadVar,zK ha,eU G,this]
    .cases K
   .rename_i n ha G;split at K
    .rename_i o ho;split at K;.rename_i cs A;have⟨AV,hu,P'⟩:=agG hr D ho A K;exact⟨k,off,AV,Z,by simp[loadVar,zK ha,hu],P'⟩
     .cases K
    .cases K
   .cases K
 .rename_i cs;cases L with
  |fp hz hv=>
   rename_i k off vs;have A:=AN hr hz;split at K
   .rename_i n ha G;split at K
    .rename_i l Jd;injection K with K;subst K
     obtain⟨rfl,hle⟩:=rW _ _ _ Jd;have cf:=hv.length;refine⟨k,off,.agg (vs.take n).toArray,rfl,?_,.agg (hv.take n)⟩;have:=run_loadCells_list (P:=P) w ⟨k,off,none⟩ (vs.take n) λj v hj=>by
      rw[jN];rw[eQ]at hj;split at hj;.exact A j v hj
      .cases hj
     rw[ax,show min n (O vs)=n from U]at this;simp[loadVar,zK ha,eU G,this]
    .cases K
   .rename_i n ha G;rw[xi]at K;have⟨AV,hu,P'⟩:=hv.get K;have hcu:=A 0 AV hu;simp only[dP]at hcu;exact⟨k,off,AV,Z,by simp[loadVar,zK ha,hcu],P'⟩
   .cases K
 .cases K
def D6{x}(h:Mw a=M)(hv:VR r a x):∃ad l c,x= .slice (J ad) l c:=by
 cases hv<;>simp[Mw]at h;.exact⟨_,_,_,Z⟩
 .exact⟨_,_,_,Z⟩
 .exact⟨_,_,_,Z⟩
 .exact⟨_,_,_,Z⟩
def BH{x}(h:zP a=M)(hv:VR r a x):∃l c,x= .slice B l c:=by
 cases hv<;>try(simp[zP]at h;done)
 cases x<;>try(simp[zP]at h;done)
 rename_i ad _ _;cases ad;.exact⟨_,_,Z⟩
 .simp[zP]at h
def Eh{x}(h:adb a=M)(hv:VR r a x):∃k,x= .map (J k):=by cases hv<;>simp[adb]at h;exact⟨_,Z⟩
def Bz{x}(h:F' a=M)(hv:VR r a x):x= .map B:=by
 cases hv<;>try(simp[F']at h;done)
 cases x<;>try(simp[F']at h;done)
 rename_i k;cases k;.rfl
 .simp[F']at h
def DN{x}(h:Ts a=M)(hv:VR r a x):∃f b c,x= .func f b c:=by
 cases hv<;>simp[Ts]at h;.exact⟨_,_,_,Z⟩
 .exact⟨_,_,_,Z⟩
def Bo{x}(h:FT a=M)(hv:VR r a x):x= .nilFunc:=by
 cases hv<;>try(simp[FT]at h;done)
 cases x<;>first|rfl|simp[FT]at h
def Eo{x}(h:isIf a=M)(hv:VR r a x):∃t v,x= .iface t v:=by cases hv<;>simp[isIf]at h;exact⟨_,_,Z⟩
def BO{x}(h:GB a=M)(hv:VR r a x):x= .nilIface:=by
 cases hv<;>try(simp[GB]at h;done)
 cases x<;>first|rfl|simp[GB]at h
def KG(x y:Value):Prop:=¬(x= .nilIface/\y= .nilIface)/\(∀cs,x≠ .agg cs)/\(∀k n,x≠ .int k n)/\(∀s,x≠ .string s)/\(∀k n,x≠ .float k n)/\(∀k n m,x≠ .complex k n m)
def qZ{p q b}(h:rP p q=J b):b=R/\(p=M\/q=M):=by
 unfold rP at h;split at h
 .rename_i hp;injection h with h
  exact⟨h.symm,by simpa using hp⟩
 .cases h
def DU(P)(hr:HR r h Y w0 w){b x y}(L:VR r a x)(hy:VR r b y){q}(V:wP P h t a b=J q)(d:Nat):
 (Op.equalIn (d+1) t x y).run P w= .ok q w/\KG x y:=by
 unfold wP at V;split at V
 .rename_i e hu;unfold Ec at V;split at V
  .rename_i b1 off;cases L with
   |ptr W=>
   rename_i k m;split at V
   .rename_i b' QK;cases hy with
    |ptr F=>
    rename_i k' m';refine⟨?_,by simp[KG]⟩;split at V
    .rename_i s G;have tU:=eU G w;by_cases ON:b1=b'
     .subst ON;rw[W]at F;injection F with F;injection F with F h3;subst F
      simp only[BEq.rfl,cA,bF]at V;subst V;rw[Op.equalIn];simp only[Sem.run_bind,run_underlying hu,Result.andThen_ok,tU];have e1:((⟨k,off,B⟩:Addr)==⟨k,QK,B⟩)=(off==QK):=by rw[Bool.eq_iff_iff];simp
      simp[sameAddr,e1]
     .have aqG:(b1==b')=R:=Mf ON
      simp only[aqG,du,cU]at V;split at V
      .rename_i o ho;split at V
       .rename_i o' ho';split at V
        .rename_i hcc;injection V with V;subst V
         simp only[aS,Option.isSome_iff_exists]at hcc;have⟨⟨cs,A⟩,⟨tw,yi⟩⟩:=hcc;have⟨c,d1,e1,hk,_⟩:=hr.cells W ho A;have⟨c',d2,e2,CT,_⟩:=hr.cells F ho' yi;have cD:k≠k':=by
          intro ET;subst ET;refine ON (hr.inj b1 b' o o' k m m' ho ho' ?_ ?_ W F);.cases o<;>simp[AO.cells?]at A<;>trivial
          .cases o'<;>simp[AO.cells?]at yi<;>trivial
         have arQ:(k==k')=R:=Mf cD
         rw[Op.equalIn];simp only[Sem.run_bind,run_underlying hu,Result.andThen_ok,tU];simp[sameAddr,cD,noView,viewAt,mayBeOne,stringish,World.frozen?,World.shape?,hk,CT]
        .cases V
       .cases V
      .cases V
    .cases V
   .exact atq
   .cases V
  .cases L;split at V
   .exact atq
   .cases V
  .cases L;split at V
   .exact atq
   .cases V
  .cases L;split at V
   .cases hy;refine⟨?_,by simp[KG]⟩;split at V
    .rename_i s G;have tU:=eU G w;split at V
     .rename_i Tv;injection V with V;subst V
      obtain⟨rfl,rfl⟩:=Tv;rw[Op.equalIn];simp only[Sem.run_bind,run_underlying hu,Result.andThen_ok,tU];simp[sameAddr]
     .cases V
    .cases V
   .exact atq
   .cases V
  .cases V
 .rename_i e hu;obtain⟨rfl,RD⟩:=qZ V;simp only[aS]at RD;obtain⟨W,F⟩|⟨W,F⟩:=RD
  .obtain⟨ad,l,c,rfl⟩:=D6 W L;obtain⟨l',c',rfl⟩:=BH F hy;exact ate
  .obtain⟨l,c,rfl⟩:=BH W L;obtain⟨ad,l',c',rfl⟩:=D6 F hy;exact ate
 .rename_i e e' hu;obtain⟨rfl,RD⟩:=qZ V;simp only[aS]at RD;obtain⟨W,F⟩|⟨W,F⟩:=RD
  .obtain⟨k,rfl⟩:=Eh W L;obtain rfl:=Bz F hy;exact ate
  .obtain rfl:=Bz W L;obtain⟨k,rfl⟩:=Eh F hy;exact ate
 .rename_i e e' e'' hu;obtain⟨rfl,RD⟩:=qZ V;simp only[aS]at RD;obtain⟨W,F⟩|⟨W,F⟩:=RD
  .obtain⟨f,b,c,rfl⟩:=DN W L;obtain rfl:=Bo F hy;exact ate
  .obtain rfl:=Bo W L;obtain⟨f,b,c,rfl⟩:=DN F hy;exact ate
 .rename_i e hu;obtain⟨rfl,RD⟩:=qZ V;simp only[aS]at RD;obtain⟨W,F⟩|⟨W,F⟩:=RD
  .obtain⟨t',v,rfl⟩:=Eo W L;obtain rfl:=BO F hy;exact ate
  .obtain rfl:=BO W L;obtain⟨t',v,rfl⟩:=Eo F hy;exact ate
 .cases V
variable{P:Program}{op:BinOp}{u':Value}{x y:Operand}
def kE{x}{k:IntKind}{n}(h:eX a=J (k,n))(hv:VR r a x):x= .int k n:=by
 unfold eX at h;split at h
 .cases hv;split at h;.injection h with h;injection h with W F;subst W;subst F;rfl
  .cases h
 .cases h
def mM{x n}(h:mT a=J n)(hv:VR r a x):∃k,x= .int k n:=by
 unfold mT at h;split at h;.cases hv;cases h;exact⟨_,Z⟩
 .cases h
def BX{v}(ho:KG AV v)(w):(eqGuard op t x y AV v).run P w= .ok () w:=by
 unfold eqGuard;have⟨W,F,_⟩:=ho;cases op<;>simp only[gL,iZ,cA,du,cU,Sem.run_pure]<;>try rfl
 all_goals
  split;.exact absurd ⟨Z,Z⟩ W
  .exact absurd Z (F _)
  .rfl
def xX{v}(ho:KG AV v){q}(h:(Op.equalIn (9999+1) t AV v).run P w= .ok q w):
 (binOp .eql t AV v).run P w= .ok (.bool q) w/\(binOp .neq t AV v).run P w= .ok (.bool (!q)) w:=by
 have⟨_,_,h3,h4,h5,h6⟩:=ho;have e1:binOp .eql t AV v=(Op.equal t AV v>>=λb=>pure (.bool b)):=by unfold binOp;split<;>first|rfl|(exfalso;first|exact h3 _ _ rfl|exact h4 _ rfl|exact h5 _ _ rfl|exact h6 _ _ _ rfl|simp_all)
 have e2:binOp .neq t AV v=(Op.equal t AV v>>=λb=>pure (.bool (!b))):=by unfold binOp;split<;>first|rfl|(exfalso;first|exact h3 _ _ rfl|exact h4 _ rfl|exact h5 _ _ rfl|exact h6 _ _ _ rfl|simp_all)
 have e3:(Op.equal t AV v).run P w= .ok q w:=h;rw[e1,e2];constructor<;>simp[e3]
def tc(P)(hr:HR r h Y w0 w){b v}(ha:VR r a AV)(D:VR r b u')
 (V:jm P h op t x y a b=J v):∃hd,((do eqGuard op t x y AV u';binOp op t AV u':Sem Value)).run P w= .ok hd w/\VR r v hd:=by
 have key:qA P h op t a b=J v->∃hd,((do eqGuard op t x y AV u';binOp op t AV u':Sem Value)).run P w= .ok hd w/\VR r v hd:=by
  intro V;unfold qA at V;split at V
  .split at V
   .rename_i q hq;injection V with V;subst V
    have⟨W,F⟩:=DU P hr ha D hq 9999;exact⟨_,by simp only[Sem.run_bind,BX F,Result.andThen_ok,(xX F W).1],.g _⟩
   .cases V
  .split at V
   .rename_i q hq;injection V with V;subst V
    have⟨W,F⟩:=DU P hr ha D hq 9999;exact⟨_,by simp only[Sem.run_bind,BX F,Result.andThen_ok,(xX F W).2],.g _⟩
   .cases V
  .cases V
 unfold jm at V;split at V
 .rename_i p hp;split at V
  .rename_i p' Jf;obtain rfl:=kq _ _ _ hp ha;obtain rfl:=kq _ _ _ Jf D;unfold lH at V;exact avf
  .exact key V
 .exact key V
def LM(P)(hr:HR r h Y w0 w){b v}(ha:VR r a AV)(D:VR r b u')
 (V:dE P h op t x y a b=J v):∃hd,((do eqGuard op t x y AV u';binOp op t AV u':Sem Value)).run P w= .ok hd w/\VR r v hd:=by
 unfold dE at V;split at V
 .rename_i k m hk;split at V
  .rename_i k' n CT;split at V
   .rename_i ET;subst ET;split at V
    .rename_i hd hz;injection V with V;subst V
     obtain rfl:=kE hk ha;obtain rfl:=kE CT D;unfold vf at hz;split at hz
     all_goals first|(injection hz with hz;subst hz)|cases hz
     .exact⟨_,by simp[eqGuard,binOp,Op.intArith,je],.g _⟩
     .exact⟨_,by simp[eqGuard,binOp,Op.intArith,je],.g _⟩
     .exact atM
     .exact atM
     .exact atM
     .exact atM
     .exact atM
     .exact atM
    .exact tc P hr ha D V
   .exact tc P hr ha D V
  .exact tc P hr ha D V
 .exact tc P hr ha D V
variable{cap size:Nat}{ke:Option Value}{mi:Int}
def zi{r}:∀(cs:List u) (vs:List Value) (l:List UInt8),pD cs=J l->fv r cs vs->∃ns:List Int,vs=ns.map (Value.int .u8)/\l=ns.map λn=>UInt8.ofNat n.toNat
 |[],vs,l,h,hv=>by cases hv;simp only[pD,bF]at h;subst h;exact⟨[],Z,Z⟩
 |a::cs,vs,l,h,hv=>by
  cases hv with
  |cons hv ht=>
  unfold pD at h;split at h;.rename_i W;cases W
  .rename_i n as' W;injection W with W F;subst W;subst F
   split at h
   .rename_i q hq;injection h with h;subst h
    obtain⟨ns,rfl,rfl⟩:=zi _ _ q hq ht;cases hv;exact⟨n::ns,Z,Z⟩
   .cases h
  .cases h
def foldl_push(ns:List Int):∀(s:ByteArray),ns.foldl (λr n=>r.push (UInt8.ofNat n.toNat)) s=⟨s.data++(ns.map λn=>UInt8.ofNat n.toNat).toArray⟩:=by
 induction ns with
 |nil=>intro s;cases s;simp
 |cons n ns ih=>
  intro s;simp only[DK,ih]
  congr 1
  simp
def BL(P)(hr:HR r h Y w0 w){s d off len}(D:r b=J (k,m)){v}(V:C6 P h s d b off len=J v):
 ∃hd,(convert s d (.slice (J ⟨k,off,B⟩) len cap)).run P w= .ok hd w/\VR r v hd:=by
 unfold C6 at V;split at V
 .rename_i e G;split at V
  .rename_i z;split at V
   .rename_i hu;split at V
    .rename_i cs A;split at V
     .rename_i l K;injection V with V;subst V
      obtain⟨vs,va,cf,kg,_⟩:=oL hr D A;obtain⟨ns,rfl,rfl⟩:=zi cs vs l K va;have dt:=run_loadCells_list (P:=P) w ⟨k,off,B⟩ _ kg;rw[cf]at dt;refine⟨_,?_,.g _⟩;rw[run_convert_bytes_string w s d e _ len cap G hu z,run_bytesToString w _ len cap ns dt,foldl_push];simp[ByteArray.empty,ByteArray.emptyWithCapacity];rfl
     .cases V
    .cases V
   .cases V
  .cases V
 .cases V
def JU(P)(hr:HR r h Y w0 w){s d off}(D:r b=J (k,m)){v}(V:xO P h s d b off=J v):
 ∃hd,(convert s d (.pointer (J ⟨k,off,B⟩))).run P w= .ok hd w/\VR r v hd:=by
 unfold xO at V;split at V
 .rename_i t G;split at V
  .rename_i z;split at V
   .rename_i n hn;split at V
    .rename_i cs e ho;split at V
     .rename_i dc;injection V with V;subst V
      obtain⟨c,hk,zU⟩:=hr.obj b _ k m ho D;have cf:=zU.length;refine⟨_,?_,.ptr D⟩;have ah1:¬O c<=off:=U;simp[convert,run_underlying G,run_underlying z,Conv.unsafePointer,Conv.seenAt,viewAt,cellsIn,World.shape?,hk,eU hn,ah1]
     .cases V
    .cases V
   .cases V
  .cases V
 .rename_i G;split at V
  .rename_i AV z;split at V
   .rename_i n hn;split at V
    .rename_i cs e ho;split at V
     .rename_i K;injection V with V;subst V
      obtain⟨c,hk,zU⟩:=hr.obj b _ k m ho D;have cf:=zU.length;refine⟨_,?_,.ptr D⟩;rw[cf]at K;simp[convert,run_underlying G,run_underlying z,Conv.unsafePointer,Conv.seenAt,viewAt,World.shape?,hk,eU hn,variablesAt,K]
     .cases V
    .cases V
   .cases V
  .cases V
 .cases V
def KM(P)(hr:HR r h Y w0 w){s d v x}(L:VR r a x)(V:nA P h s d a=J v):
 ∃hd,(convert s d x).run P w= .ok hd w/\VR r v hd:=by
 unfold nA at V;split at V
 .cases L;exact avf
 .cases L with|sl D=>exact BL P hr D V
 .cases L with|og D hn=>exact BL P hr D V
 .cases L with|ptr D=>exact JU P hr D V
 .cases V
def pn{i H}(h:nI i H=J n):0<=i/\i<=H/\i.toNat=n:=by
 unfold nI at h;split at h
 .split at h
  .injection h with h;subst h
   rename_i m hm;exact⟨ji m,Cq.2 hm,Z⟩
  .cases h
 .cases h
def zw{len i}(h:pJ len i=J n):0<=i/\i<len/\i.toNat=n:=by
 unfold pJ at h;split at h
 .split at h
  .injection h with h;subst h
   rename_i m hm;exact⟨ji m,sJ.2 hm,Z⟩
  .cases h
 .cases h
def rH{k:IntKind}{i:Int}{y:Nat}{c:BoundsCode}(h0:0<=i)(W:i<=y):(Instr.sliceBound (.int k i) y c).run P w= .ok i.toNat w:=by simp[Instr.sliceBound,asIntOf,h0,W]
def XU(r:dI)(a:Option u)(x:Option Value):Prop:=match a,x with
 |none,B=>True
 |some a,J x=>VR r a x
 |_,_=>False
def fS{H a x}(L:XU r a x)(h:fX d H a=J n):
 (x=B/\n=d)\/(n<=H/\∃v,x=J v/\∀(y:Nat) c (w:World),H<=y->(Instr.sliceBound v y c).run P w= .ok n w):=by
 unfold fX at h;split at h
 .injection h with h
  cases x with
  |none=>exact .inl ⟨Z,h.symm⟩
  |some _=>exact L.elim
 .split at h
  .rename_i v i oM;cases x with
   |none=>exact L.elim
   |some AV=>obtain⟨k,rfl⟩:=mM oM L;obtain⟨h0,W,F⟩:=pn h;refine .inr ⟨U,_,Z,λy c w hy=>?_⟩;rw[rH h0 U,F]
  .cases h
def lY{isS len l h lo H}
 (hh:(H=B/\h=len)\/(∃v,H=J v/\∀c (w:World),(Instr.sliceBound v cap c).run P w= .ok h w))
 (K:(lo=B/\l=0)\/(∃v,lo=J v/\∀c (w:World),(Instr.sliceBound v h c).run P w= .ok l w)):
 (Instr.sliceBounds isS len cap lo H B).run P w= .ok (l,h,cap) w:=by
 unfold Instr.sliceBounds;rcases hh with⟨rfl,rfl⟩|⟨v,rfl,hh⟩<;>rcases K with⟨rfl,rfl⟩|⟨AV,rfl,K⟩<;>simp_all
def jG{e}(hu:P.underlying t=J (.slice e))(G:cZ P e=J size){len l h:Nat}{lo H}
 (D:(Instr.sliceBounds M len cap lo H B).run P w= .ok (l,h,cap) w) (ad):
 (Instr.sliceAt t (.slice ad len cap) lo H B).run P w= .ok (.slice (if cap=l then ad else ad.map (·.add (l*size))) (h-l) (cap-l)) w:=by
 simp[Instr.sliceAt,Instr.slice,run_underlying hu,D,eU G]
def Ib(P){v x lo H oM}(L:VR r a x)(jL:XU r lo ke)(Cj:XU r H oM)
 (V:fW P t a lo H=J v) (w):∃hd,(Instr.sliceAt t x ke oM B).run P w= .ok hd w/\VR r v hd:=by
 unfold fW at V;split at V
 .rename_i b off len cap;cases L with
  |sl D=>
  rename_i k n;split at V
  .rename_i e hu;split at V
   .rename_i size G;unfold ub at V;split at V
    .rename_i h hh;split at V
     .rename_i l K;injection V with V;subst V
      have W:=fS (P:=P) Cj hh;have F:=fS (P:=P) jL K;have mB:=lY (P:=P) (isS:=M) (len:=len) (cap:=cap) (l:=l) (h:=h) (lo:=ke) (H:=oM) (w:=w)
       (W.imp id λ⟨_,v,e,f⟩=>⟨v,e,λc w=>f cap c w (an _)⟩)
       (F.imp id λ⟨_,v,e,f⟩=>⟨v,e,λc w=>f h c w (an _)⟩)
      refine⟨_,jG hu G mB _,?_⟩;by_cases A:cap=l;.simp only[A,cA];exact .sl D
      .simp only[A,cU,eB,jN];exact .sl D
     .cases V
    .cases V
   .cases V
  .cases V
 .rename_i b off j len;cases L with
  |og D hn=>
  rename_i k n;split at V
  .rename_i e hu;split at V
   .rename_i size G;unfold adN at V;split at V
    .rename_i h hh;split at V
     .rename_i l K;have W:=fS (P:=P) Cj hh;have F:=fS (P:=P) jL K;have hle:h<=len:=by rcases W with⟨_,rfl⟩|⟨W,_⟩<;>omega
      have hlh:l<=h:=by rcases F with⟨_,rfl⟩|⟨F,_⟩<;>omega
      have mB:=lY (P:=P) (isS:=M) (len:=len) (cap:=n-j) (l:=l) (h:=h) (lo:=ke) (H:=oM) (w:=w)
       (W.imp id λ⟨_,v,e,f⟩=>⟨v,e,λc w=>f _ c w U⟩)
       (F.imp id λ⟨_,v,e,f⟩=>⟨v,e,λc w=>f h c w (an _)⟩)
      refine⟨_,jG hu G mB _,?_⟩;split at V
      .rename_i dc;injection V with V;subst V
       have A:¬n-j=l:=U;simp only[A,cU,eB,jN];rw[Nat.sub_sub];exact .og D U
      .split at V
       .rename_i h0;subst h0;injection V with V;subst V
        have:(if n-j=0 then J (⟨k,off,B⟩:Addr)else(J ⟨k,off,B⟩:Option Addr).map (·.add (0*size)))=J ⟨k,off,B⟩:=by simp[Addr.add]
        rw[this];exact .og D U
       .injection V with V;subst V
        have:h-l=0:=U;rw[this];by_cases A:n-j=l;.simp only[A,cA];exact .sle
        .simp only[A,cU,eB];exact .sle
     .cases V
    .cases V
   .cases V
  .cases V
 .cases L with
  |sle=>
  rename_i ad c;split at V
  .rename_i e hu;split at V
   .rename_i size G;unfold adS at V;split at V
    .rename_i h hh;split at V
     .rename_i l K;injection V with V;subst V
      have W:=fS (P:=P) Cj hh;have F:=fS (P:=P) jL K;have hle:h=0:=by rcases W with⟨_,rfl⟩|⟨W,_⟩<;>omega
      have hlh:l=0:=by rcases F with⟨_,rfl⟩|⟨F,_⟩<;>omega
      subst hle;subst hlh;have mB:=lY (P:=P) (isS:=M) (len:=0) (cap:=c) (l:=0) (h:=0) (lo:=ke) (H:=oM) (w:=w)
       (W.imp id λ⟨_,v,e,f⟩=>⟨v,e,λc w=>f _ c w U⟩)
       (F.imp id λ⟨_,v,e,f⟩=>⟨v,e,λc w=>f _ c w (an _)⟩)
      refine⟨_,jG hu G mB _,?_⟩;by_cases A:c=0;.simp only[A,cA];exact .sle
      .simp only[A,cU,eB];exact .sle
     .cases V
    .cases V
   .cases V
  .cases V
 .rename_i len cs;split at V
  .rename_i e hu;split at V
   .rename_i size G;unfold xI at V;split at V
    .rename_i h hh;split at V
     .rename_i l K;have W:=fS (P:=P) Cj hh;have F:=fS (P:=P) jL K;have hle:h<=len:=by rcases W with⟨_,rfl⟩|⟨W,_⟩<;>omega
      have hlh:l<=h:=by rcases F with⟨_,rfl⟩|⟨F,_⟩<;>omega
      have mB:=λ(cap:Nat) (A:len<=cap)=>lY (P:=P) (isS:=M) (len:=len) (cap:=cap) (l:=l) (h:=h) (lo:=ke) (H:=oM) (w:=w)
       (W.imp id λ⟨_,v,e,f⟩=>⟨v,e,λc w=>f _ c w U⟩)
       (F.imp id λ⟨_,v,e,f⟩=>⟨v,e,λc w=>f h c w (an _)⟩)
      split at V
      .rename_i q1 hq1;split at V
       .rename_i q2 hq2;injection V with V;subst V
        obtain⟨rfl,SN⟩:=tY _ _ _ hq1;obtain⟨rfl,hd2⟩:=rW _ _ _ hq2;cases L with
        |EM=>obtain rfl:h=0:=U;obtain rfl:l=0:=U;exact⟨_,jG hu G (mB 0 (an _)) _,by simp;exact .EM⟩
        |Ee=>
         rename_i ad c;obtain rfl:h=0:=U;obtain rfl:l=0:=U;refine⟨_,jG hu G (mB c (aQ _)) _,?_⟩;by_cases A:c=0;.simp[A];exact .Ee
         .simp[A];exact .Ee
        |fz hz A hv=>
         rename_i k off cap vs;refine⟨_,jG hu G (mB cap A) _,?_⟩;by_cases zk:cap=l;.have h0:h-l=0:=U;simp only[zk,cA,h0];simp only[fJ,dJ];exact .Ee
         .simp only[zk,cU,eB,jN];exact atX
       .cases V
      .cases V
     .cases V
    .cases V
   .cases V
  .cases V
 .rename_i b off;cases L with
  |ptr D=>
  rename_i k m;split at V
  .rename_i n e hu;split at V
   .rename_i size G;unfold ub at V;split at V
    .rename_i h hh;split at V
     .rename_i l K;injection V with V;subst V
      have W:=fS (P:=P) Cj hh;have F:=fS (P:=P) jL K;have mB:=lY (P:=P) (isS:=R) (len:=n) (cap:=n) (l:=l) (h:=h) (lo:=ke) (H:=oM) (w:=w)
       (W.imp id λ⟨_,v,e,f⟩=>⟨v,e,λc w=>f n c w (an _)⟩)
       (F.imp id λ⟨_,v,e,f⟩=>⟨v,e,λc w=>f h c w (an _)⟩)
      refine⟨.slice (J (if n=l then⟨k,off,B⟩else(⟨k,off,B⟩:Addr).add (l*size))) (h-l) (n-l),?_,?_⟩;.simp[Instr.sliceAt,Instr.sureAddr,run_underlying hu,mB,eU G]
      .by_cases A:n=l;.simp only[A,cA];exact .sl D
       .simp only[A,cU,jN];exact .sl D
     .cases V
    .cases V
   .cases V
  .cases V
 .cases L;unfold slG at V;have key:∀(a:Option u) (x:Option Value) (g:Option Value),UJ a=J g->XU r a x->x=g:=by
   intro a x g hg hv;unfold UJ at hg;split at hg
   .injection hg with hg;subst hg
    cases x with
    |none=>rfl
    |some _=>exact hv.elim
   .split at hg
    .rename_i AV hu;injection hg with hg;subst hg
     cases x with
     |none=>exact hv.elim
     |some y=>rw[kq _ _ _ hu hv]
    .cases hg
  split at V
  .rename_i l K;split at V
   .rename_i h hh;split at V
    .rename_i hd hz;injection V with V;subst V
     obtain rfl:=key _ _ _ K jL;obtain rfl:=key _ _ _ hh Cj;exact⟨hd,jy P _ _ hz w,.g hd⟩
    .cases V
   .cases V
  .cases V
 .cases V
def GD{i H}(h:nI i H=J n):n<=H:=by have⟨_,_,_⟩:=pn h;omega
def pY{k1 k2:IntKind}{len l h H}{lo:Option Value}
 (hm:nI mi cap=J m) (hh:nI H m=J h)
 (K:(lo=B/\l=0)\/(∃v,lo=J v/\∀c (w:World),(Instr.sliceBound v h c).run P w= .ok l w)):
 (Instr.sliceBounds M len cap lo (J (.int k1 H)) (J (.int k2 mi))).run P w= .ok (l,h,m) w:=by
 obtain⟨a1,a2,a3⟩:=pn hm;obtain⟨b1,b2,b3⟩:=pn hh;unfold Instr.sliceBounds;rcases K with⟨rfl,rfl⟩|⟨AV,rfl,K⟩<;>simp[rH a1 a2,rH b1 b2,a3,b3]<;>simp_all
def uE{h H}(hh:fX 0 m (J H)=J h):∃i,mT H=J i/\nI i m=J h:=by
 unfold fX at hh;simp only at hh;split at hh;.rename_i i oM;exact⟨i,oM,hh⟩
 .cases hh
def asU(P){v H mx x oM mx' lo}(L:VR r a x)(jL:XU r lo ke)(Cj:VR r H oM)(hmx:VR r mx mx')
 (V:nU P t a lo H mx=J v) (w):∃hd,(Instr.sliceAt t x ke (J oM) (J mx')).run P w= .ok hd w/\VR r v hd:=by
 unfold nU at V;split at V
 .rename_i e hu;split at V
  .rename_i size G;split at V
   .rename_i mi hmi;obtain⟨k2,rfl⟩:=mM hmi hmx;have kO:∀{b off cap len k n:Nat},r b=J (k,n)->OO size b off cap mi lo H=J v->
     ∃hd,(Instr.sliceAt t (.slice (J ⟨k,off,B⟩) len cap) ke (J oM) (J (.int k2 mi))).run P w= .ok hd w/\VR r v hd:=by
     intro b off cap len k n D V;unfold OO at V;split at V
     .rename_i m hm;split at V
      .rename_i h hh;split at V
       .rename_i l K;injection V with V;subst V
        have⟨i,W,F⟩:=uE hh;obtain⟨k1,rfl⟩:=mM W Cj;have h3:=fS (P:=P) jL K;have mB:=pY (P:=P) (k1:=k1) (k2:=k2) (len:=len) (lo:=ke) (w:=w) hm F (h3.imp id λ⟨_,v,e,f⟩=>⟨v,e,λc w=>f h c w (an _)⟩);exact atF
       .cases V
      .cases V
     .cases V
    have anC:∀{b off len cap k n:Nat},len<=cap->r b=J (k,n)->OO size b off len mi lo H=J v->
     ∃hd,(Instr.sliceAt t (.slice (J ⟨k,off,B⟩) len cap) ke (J oM) (J (.int k2 mi))).run P w= .ok hd w/\VR r v hd:=by
     intro b off len cap k n hlc D V;unfold OO at V;split at V
     .rename_i m hm;split at V
      .rename_i h hh;split at V
       .rename_i l K;injection V with V;subst V
        have⟨i,W,F⟩:=uE hh;obtain⟨k1,rfl⟩:=mM W Cj;have h3:=fS (P:=P) jL K;have hm':nI mi cap=J m:=by
         have⟨a1,a2,a3⟩:=pn hm;exact auX
        have mB:=pY (P:=P) (k1:=k1) (k2:=k2) (len:=len) (lo:=ke) (w:=w) hm' F (h3.imp id λ⟨_,v,e,f⟩=>⟨v,e,λc w=>f h c w (an _)⟩);exact atF
       .cases V
      .cases V
     .cases V
    have fzk:∀{base:Option Addr} {len cap:Nat} {cs:List u} {vs:List Value},len<=cap->fv r cs vs->(len=0/\cs=[]\/∃k off,base=J ⟨k,off,B⟩/\∀i v,vs[i]?=J v->r.hd k (off+i)=J v)->fz3 size len cs mi lo H=J v->
     ∃hd,(Instr.sliceAt t (.slice base len cap) ke (J oM) (J (.int k2 mi))).run P w= .ok hd w/\VR r v hd:=by
     intro base len cap cs vs hlc hv aiU V;unfold fz3 at V;split at V
     .rename_i m hm;split at V
      .rename_i h hh;split at V
       .rename_i l K;have⟨i,W,F⟩:=uE hh;obtain⟨k1,rfl⟩:=mM W Cj;have h3:=fS (P:=P) jL K;have hm':nI mi cap=J m:=by
         exact auX
        have mB:=pY (P:=P) (k1:=k1) (k2:=k2) (len:=len) (lo:=ke) (w:=w) hm' F (h3.imp id λ⟨_,v,e,f⟩=>⟨v,e,λc w=>f h c w (an _)⟩);have Hj:=GD hm;have hhm:=GD F;have hlh:l<=h:=by rcases h3 with⟨_,rfl⟩|⟨h3,_⟩<;>omega
        refine⟨.slice (if m=l then base else base.map (·.add (l*size))) (h-l) (m-l),by simp[Instr.sliceAt,Instr.slice,run_underlying hu,mB,eU G],?_⟩;split at V
        .rename_i A;injection V with V;subst V
         have e1:h-l=0:=U;have e2:m-l=0:=U;rw[au A,e1,e2];cases base with
         |none=>exact .N9
         |some a=>exact .Pu
        .rename_i A;rw[ak A];split at V
         .rename_i q1 hq1;split at V
          .rename_i q2 hq2;injection V with V;subst V
           obtain⟨rfl,SN⟩:=tY _ _ _ hq1;obtain⟨rfl,hd2⟩:=rW _ _ _ hq2;obtain⟨h0,rfl⟩|⟨k,off,rfl,hz⟩:=aiU;.omega
           .simp only[eB,jN];exact atX
          .cases V
         .cases V
       .cases V
      .cases V
     .cases V
    split at V
    .cases L with
     |sl D=>exact kO D V
    .cases L with
     |og D hn=>exact anC U D V
    .cases L with
     |EM=>exact fzk (an _) .nil (.inl ⟨Z,Z⟩) V
     |Ee=>exact fzk (aQ _) .nil (.inl ⟨Z,Z⟩) V
     |fz hz A hv=>exact fzk A hv (.inr ⟨_,_,Z,hz⟩) V
    .cases L with
     |N9=>exact fzk (an _) .nil (.inl ⟨Z,Z⟩) V
     |Pu=>exact fzk (an _) .nil (.inl ⟨Z,Z⟩) V
    .cases L with
     |sle=>exact fzk (aQ _) .nil (.inl ⟨Z,Z⟩) V
    .cases L;exact fzk (an _) .nil (.inl ⟨Z,Z⟩) V
    .cases V
   .cases V
  .cases V
 .cases V
variable{kd:TypeDesc}{kt:TypeId}
def CZ(off:Nat):∀(us:List Value) (j:Nat) (cells:Array Value),off+j+O us<=cells.size->
 ((us.zipIdx j).foldl (λcs (x:Value×Nat)=>cs.setIfInBounds (off+x.2) x.1) cells).toList=cells.toList.take (off+j)++us++cells.toList.drop (off+j+O us)
 |[],j,cells,_=>bR
 |AV::us,j,cells,h=>by simp only[bD]at h;rw[List.zipIdx_cons,DK,CZ off us (j+1) _ gr];simp only[Array.toList_setIfInBounds];have:=list_seg_step cells.toList (off+j) AV us gr;rw[fZ off j 1]at this;rw[this];simp
def uG{r}{place:Nat->Option (Nat×Nat)}{ae:Operand->u}{ev:Operand->Value}:∀(ps:List (Nat×Operand)) (cs out:List u) (vs:Array Value),
 gl place ae ps cs=J out->fv r cs vs.toList->(∀x∈ps,VR r (ae x.2) (ev x.2))->
 ∃us:Array Value,Instr.fill place vs (ps.map λp=>(p.1,ev p.2))=J us/\fv r out us.toList
 |[],cs,out,vs,h,hv,_=>by simp only[gl,bF]at h;subst h;exact⟨vs,Z,hv⟩
 |x::ps,cs,out,vs,h,hv,L=>by
  simp only[gl]at h;split at h
  .rename_i q hq;unfold apart at hq;split at hq;.cases hq
   .rename_i p hp;split at hq;.cases hq
    .rename_i ws hws;split at hq
     .rename_i cf;obtain⟨rfl,hle⟩:=uD _ _ _ _ hq;have A:=wG hws (L x bR);have zk:=A.length;have hvl:=hv.length;simp only[fQ]at zk hvl;have N4:=CZ p.1 (ev x.2).cells.toList 0 vs gr;have⟨us,W,F⟩:=uG ps _ out ((ev x.2).cells.zipIdx.foldl (λcs (x:Value×Nat)=>cs.setIfInBounds (p.1+x.2) x.1) vs) h
       (by rw[<-Array.foldl_toList,Array.toList_zipIdx,N4];simp only[dP];refine((hv.take _).append A).append ?_;rw[show(ev x.2).cells.toList.length=ws.length by simp[zk]];exact hv.drop _)
       (λy hy=>L y (by simp[hy]))
      refine⟨us,?_,F⟩;simp only[cB,Instr.fill,hp];rw[ak];.exact W
      .have e1:(ev x.2).cells.size=p.2:=U;have e2:¬p.1+(ev x.2).cells.size>vs.size:=U;simp[e1];omega
     .cases hq
  .cases h
def JT{α:Type}(l:List α):∀(n i:Nat),i<n*O l->(gT n l)[i]?=l[i%O l]?
 |0,i,h=>by simp at h
 |n+1,i,h=>by
  simp only[gT];by_cases H:i<O l;.rw[bX H,ni H]
  .rw[cE U,JT l n (i-(O l)) (by rw[qi]at h;omega)]
   congr 1
   rw[<-Nat.mod_eq_sub_mod U]
def vV(hd:Array Value)(c m:Nat)(hm:m=c*hd.size):((Array.range m).map λi=>hd[i%hd.size]!)=(gT c hd.toList).toArray:=by
 subst hm;apply CC;apply iX;intro i;by_cases H:i<c*hd.size
 .have hz:0<hd.size:=by
   obtain h0|h0:=nW hd.size;.rw[h0]at H;simp at H
   .exact h0
  have aqF:i%hd.size<hd.size:=Nat.mod_lt _ hz;have:=JT hd.toList c i (Mf H);simp only[fQ]at this;rw[this];simp[H,aqF]
 .have:=vS hd.toList c;simp only[fQ]at this;rw[ed gr,ed (by simp only[this];omega)]
def BY{k x y q}(h:za kd k a=J q)(L:VR r k x)(hy:VR r a y):Instr.sameNow kd x y=J q:=by
 unfold za at h;split at h
 .split at h;.cases L;cases hy;exact h
  .cases h
 .cases h
def sS{r}{kd:TypeDesc}{k x}(L:VR r k x):∀(es:List (u×u×Nat)) (ms:List MapEntry) (i:Nat) (q:Option (Nat×u)),jB kd k es i=J q->xE r es ms->
 (q=B/\Instr.findNow kd x ms i=J B)\/(∃j v AV,q=J (j,v)/\Instr.findNow kd x ms i=J (J (j,AV))/\VR r v AV/\i<=j/\∃e,ms[j-i]?=J e/\Instr.sameNow kd x e.key=J M)
 |[],ms,i,q,h,hm=>by cases hm;simp only[jB,bF]at h;subst h;exact .inl ⟨Z,Z⟩
 |e::es,ms,i,q,h,hm=>by
  cases hm with
  |cons hk hv ht=>
  simp only[jB]at h;split at h
  .rename_i hke;injection h with h;subst h
   have:=BY hke L hk;refine .inr ⟨i,_,_,Z,by simp only[Instr.findNow,this],hv,an _,_,by simp;rfl,this⟩
  .rename_i hke;have:=BY hke L hk;obtain⟨W,F⟩|⟨j,v,AV,W,F,h3,h4,e,h5,h6⟩:=sS L es _ (i+1) q h ht
   .exact .inl ⟨W,by simp only[Instr.findNow,this];exact F⟩
   .refine .inr ⟨j,v,AV,W,by simp only[Instr.findNow,this];exact F,h3,U,e,?_,h6⟩;have:j-i=(j-(i+1))+1:=U;rw[this];simpa using h5
  .cases h
def run_checkKey(hk:P.underlying kt=J kd)(pd:pE kd=M)(b v w):(Instr.checkKey b 10000 kt v).run P w= .ok () w:=by rw[show(10000:Nat)=9999+1 from Z,Instr.checkKey];simp only[Sem.run_bind,run_underlying hk,Result.andThen_ok];cases kd<;>simp[pE]at pd<;>rfl
def run_findKey(hk:P.underlying kt=J kd){v ms}{q:Option (Nat×Value)}(h:Instr.findNow kd v ms 0=J q)(w):
 (Instr.findKey kt v ms).run P w= .ok q w:=by
 simp[Instr.findKey,run_underlying hk,h]
def Jw{hd ok}{q:Option (Nat×u)}{v}{p:Option (Nat×Value)}(h:found hd ok (J q)=J v)
 (hq:(q=B/\p=B)\/(∃j v AV,q=J (j,v)/\p=J (j,AV)/\VR r v AV)):
 VR r v (if ok then .tuple #[(match p with|some x=>x.2|none=>hd),.bool p.isSome]else(match p with|some x=>x.2|none=>hd)):=by
 obtain⟨rfl,rfl⟩|⟨j,a,AV,rfl,rfl,hv⟩:=hq
 .simp only[found,bF]at h;subst h;cases ok;.exact .g _
  .exact .dY (.cons (.g _) (.cons (.g _) .nil))
 .simp only[found,bF]at h;subst h;cases ok;.exact hv
  .exact .dY (.cons hv (.cons (.g _) .nil))
def asW(P)(hr:HR r h Y w0 w){k v x y ok}(L:VR r a x)(hy:VR r k y)(V:nS P h t a k ok=J v):
 ∃hd,(Instr.lookup t x y ok).run P w= .ok hd w/\VR r v hd:=by
 unfold nS at V;split at V
 .rename_i kt et hu;split at V
  .rename_i kd hk;split at V
   .rename_i hd hz;split at V
    .rename_i pd;split at V
     .rename_i es Qg;have aoV:∃ms,xE r es ms/\((x= .map B/\ms=[])\/∃g clock,x= .map (J g)/\w.heap[g]?=J (.map ms.toArray clock)):=by
       unfold mapOf at Qg;split at Qg;.cases L;injection Qg with Qg;subst Qg;exact⟨[],.nil,.inl ⟨Z,Z⟩⟩
       .rename_i b;cases L with
        |mp D=>
        rename_i g m;split at Qg
        .rename_i es' clock ho;injection Qg with Qg;subst Qg
         have⟨ms,hg,hm⟩:=hr.obj b _ g m ho D;exact⟨ms,hm,.inr ⟨g,clock,Z,hg⟩⟩
        .cases Qg
       .cases Qg
      have⟨ms,Zf,hx'⟩:=aoV;cases hq:jB kd k es 0 with
      |none=>rw[hq]at V;cases V
      |some q=>
       rw[hq]at V;have WK:∃p,Instr.findNow kd y ms 0=J p/\((q=B/\p=B)\/(∃j v AV,q=J (j,v)/\p=J (j,AV)/\VR r v AV)):=by
        obtain⟨W,F⟩|⟨j,v,AV,W,F,h3,_⟩:=sS hy es ms 0 q hq Zf;.exact⟨B,F,.inl ⟨W,Z⟩⟩
        .exact⟨_,F,.inr ⟨j,v,AV,W,Z,h3⟩⟩
       have⟨p,hp,RD⟩:=WK;refine⟨_,?_,Jw V RD⟩;obtain⟨rfl,rfl⟩|⟨g,clock,rfl,hg⟩:=hx'
       .cases p with
        |none=>cases ok<;>simp[Instr.lookup,run_underlying hu,run_checkKey hk pd,run_findKey hk hp,oq hz]
        |some p=>cases ok<;>simp[Instr.lookup,run_underlying hu,run_checkKey hk pd,run_findKey hk hp]
       .cases p with
        |none=>cases ok<;>simp[Instr.lookup,run_underlying hu,run_checkKey hk pd,run_findKey hk hp,oq hz,getObj,Sem.run,hg]
        |some p=>cases ok<;>simp[Instr.lookup,run_underlying hu,run_checkKey hk pd,run_findKey hk hp,getObj,Sem.run,hg]
     .cases V
    .cases V
   .cases V
  .cases V
 .cases V
def Nu(P)(hr:HR r h Y w0 w){ty v x}(L:VR r a x)(V:JE P t h a=J v):
 ∃hd,(Builtin.len_ #[t] ty #[x]).run P w= .ok hd w/\VR r v hd:=by
 unfold JE at V;split at V
 .rename_i hu;split at V
  .exact atn
  .cases V
 .rename_i e hu;split at V
  .exact atn
  .exact atn
  .exact atn
  .exact atn
  .exact avi
  .exact avi
  .cases V
 .rename_i e e' hu;split at V
  .exact atn
  .rename_i b;cases L with
   |mp D=>
   rename_i g m;split at V
   .rename_i es clock ho;injection V with V;subst V
    obtain⟨ms,hg,hm⟩:=hr.obj b _ g m ho D;have K:=hm.length;rw[K];exact⟨_,by simp[Builtin.len_,run_underlying hu,getObj,Sem.run,hg],.g _⟩
   .cases V
  .cases V
 .cases V
variable{ae:Operand->u}{o:Oper}
def Pw(P:Program)(r:dI)(ev:Operand->Value)(o:Oper)(w:World):QR->Prop
 | .val v=>∃AV,(execOp ev o).run P w= .ok (.value AV) w/\VR r v AV
 | .wF ob=>∃x,(execOp ev o).run P w= .ok (.value (.pointer (J ⟨w.heap.size,0,B⟩))) {w with heap:=w.heap.push x}/\OR r ob 0 (J x)
 | .ri ob len cap=>∃x,(execOp ev o).run P w= .ok (.value (.slice (J ⟨w.heap.size,0,B⟩) len cap)) {w with heap:=w.heap.push x}/\OR r ob 0 (J x)
 | .AT ob=>∃x,(execOp ev o).run P w= .ok (.value (.map (J w.heap.size))) {w with heap:=w.heap.push x}/\OR r ob 0 (J x)
def Pw.qv{P r}{ev:Operand->Value}{o w a q}(h:qv a=J q)
 (k:∀v,a=J v->∃AV,(execOp ev o).run P w= .ok (.value AV) w/\VR r v AV):Pw P r ev o w q:=by
 unfold br.qv at h;split at h
 .rename_i v;injection h with h;subst h
  exact k v Z
 .cases h
def XU.map{r}{ae:Operand->u}{ev:Operand->Value}{x}(h:∀y,x=J y->VR r (ae y) (ev y)):XU r (x.map ae) (x.map ev):=by
 cases x with
 |none=>trivial
 |some y=>exact h y Z
def HD:Array.range 0= #[]:=by apply Array.ext<;>simp
def yw{x}(h:QF a=J n)(hv:VR r a x):∃k,x= .int k n:=by
 unfold QF at h;split at h
 .rename_i m hm;injection h with h;subst h
  exact mM hm hv
 .cases h
def fv.tj{a:Array Value}(h:fv r cs a.toList)(e):OR r (.cells cs e) 0 (J (.cells a e (0,0))):=⟨a.toList,bR,h⟩
def zc(P)(hr:HR r h Y w0 w){ev:Operand->Value}(jd:∀x∈o.op.operands.toList,VR r (ae x) (ev x))
 {q} (hq:en P h ae o=J q):Pw P r ev o w q:=by
 unfold en at hq;have⟨dst,op,type,pos,after,guard⟩:=o;dsimp only at hq jd;cases op
 case move x=>
  injection hq with hq;subst hq
  exact⟨_,by simp[execOp],jd x gN⟩
 case pick c a b=>
  replace hq:Gd (ae c) (ae a) (ae b)=J q:=hq;have A:=jd c gN;unfold Gd at hq;split at hq
  .rename_i t ht;injection hq with hq;subst hq
   rw[ht]at A;have yi:ev c= .bool t:=by generalize ev c=AV at A;cases A;rfl
   refine⟨if t then ev a else ev b,by simp[execOp,yi,asBool],?_⟩;cases t;.exact jd b gN
   .exact jd a gN
  .cases hq
 case load t a=>refine Pw.qv (show qv (wu P h t (ae a))=J q from hq) λv hv=>?_;have⟨k,off,AV,L,K,P'⟩:=BU P hr (jd a gN) hv;exact⟨AV,by simp[execOp,L,Instr.loadAt,Instr.sureAddr,K],P'⟩
 case nilCheck x=>
  replace hq:So (ae x)=J q:=hq;have L:=jd x gN;unfold So at hq;split at hq
  .exact atu
  .exact atu
  .exact atu
  .exact atu
  .cases hq
 case fieldAddr s x f=>
  replace hq:Bb P s f (ae x)=J q:=hq;have L:=jd x gN;unfold Bb at hq;split at hq
  .rename_i b off e;rw[e]at L;split at hq
   .rename_i n hn;injection hq with hq;subst hq
    generalize hu:ev x=AV at*;cases L with
    |ptr D=>
    unfold aR at hn;split at hn
    .rename_i fs hfs;split at hn
     .rename_i fl uH;split at hn
      .rename_i m hm;injection hn with hn;subst hn
       refine⟨_,?_,.ptr D⟩;simp[execOp,hu,Instr.fieldAt,run_underlying hfs,uH,Instr.sureAddr,fieldPlace,eU hm,jN]
      .cases hn
     .cases hn
    .cases hn
   .cases hq
  .rename_i cs e;rw[e]at L;split at hq
   .rename_i n hn;split at hq
    .rename_i l K;injection hq with hq;subst hq
     obtain⟨rfl,_⟩:=tY _ _ _ K;generalize hu:ev x=AV at*;cases L with
     |fp hz hv=>
     rename_i k off vs;unfold aR at hn;split at hn
     .rename_i fs hfs;split at hn
      .rename_i fl uH;split at hn
       .rename_i m hm;injection hn with hn;subst hn
        refine⟨_,?_,.fp (k:=k) (off:=off+fl.offset) (λi v H=>?_) (hv.drop _)⟩;.simp[execOp,hu,Instr.fieldAt,run_underlying hfs,uH,Instr.sureAddr,fieldPlace,eU hm,jN]
        .rw[gh]at H;have:=hz _ v H
         rwa[<-fZ]at this
       .cases hn
      .cases hn
     .cases hn
    .cases hq
   .cases hq
  .cases hq
 case binOp op t x y yt=>refine Pw.qv (show qv (dE P h op t x y (ae x) (ae y))=J q from hq) λv hv=>?_;have⟨hd,hz,TN⟩:=LM P hr (jd x gN) (jd y gN) hv;exact⟨hd,by simp only[execOp];simp only[Sem.run_bind]at hz⊢;simp only[hz,Result.andThen_ok,Sem.run_pure],TN⟩
 case extract x i=>
  replace hq:Q2 i (ae x)=J q:=hq;have L:=jd x gN;unfold Q2 at hq;split at hq
  .rename_i vs e;rw[e]at L;refine Pw.qv hq λv hv=>?_
   rw[xi]at hv;generalize hu:ev x=AV at*;cases L with
   |dY va=>
   have⟨y,hy,hvy⟩:=va.get hv;exact⟨y,by simp[execOp,hu,Instr.extract,hy],hvy⟩
  .cases hq
 case indexAddr t x i=>
  replace hq:Nt P t (ae x) (ae i)=J q:=hq;have L:=jd x gN;have H:=jd i gN;have key:∀{e:TypeId} {b off len k m:Nat},r b=J (k,m)->wq P e b off len (ae i)=J q->
   ∃kk n size,ev i= .int kk n/\0<=n/\n<len/\cZ P e=J size/\q= .val (.ptr b (off+n.toNat*size)):=by
   intro e b off len k m D hq;unfold wq at hq;split at hq
   .rename_i n hn;have⟨kk,hk⟩:=mM hn H;split at hq
    .rename_i mm hm;have⟨h0,W,F⟩:=zw hm;split at hq
     .rename_i size G;injection hq with hq;subst hq
      exact⟨kk,n,size,hk,h0,W,G,by rw[F]⟩
     .cases hq
    .cases hq
   .cases hq
  have anr:∀{e:TypeId} {cs:List u} {len:Nat},Dk P e cs len (ae i)=J q->
   ∃kk n size,ev i= .int kk n/\0<=n/\n<len/\cZ P e=J size/\q= .val (.fp (cs.drop (n.toNat*size))):=by
   intro e cs len hq;unfold Dk at hq;split at hq
   .rename_i n hn;have⟨kk,hk⟩:=mM hn H;split at hq
    .rename_i mm hm;have⟨h0,W,F⟩:=zw hm;split at hq
     .rename_i size G;split at hq
      .rename_i l K;injection hq with hq;subst hq
       obtain⟨rfl,_⟩:=tY _ _ _ K;exact⟨kk,n,size,hk,h0,W,G,by rw[F]⟩
      .cases hq
     .cases hq
    .cases hq
   .cases hq
  have fpd:∀{k off:Nat} {cs:List u} {vs:List Value} (n:Nat),(∀i v,vs[i]?=J v->r.hd k (off+i)=J v)->fv r cs vs->VR r (.fp (cs.drop n)) (.pointer (J ⟨k,off+n,B⟩)):=by
   intro k off cs vs n hz hv;refine .fp (λi v H=>?_) (hv.drop n);rw[gh]at H;have:=hz _ v H
   rwa[<-fZ]at this
  unfold Nt at hq;split at hq
  .rename_i e hu;split at hq
   .rename_i b off len cap e';rw[e']at L;generalize HH:ev x=AV at*;cases L with
    |sl D=>
    exact aun
   .rename_i b off j len e';rw[e']at L;generalize HH:ev x=AV at*;cases L with
    |og D hn=>
    exact aun
   .rename_i len cs e';rw[e']at L;generalize HH:ev x=AV at*;obtain⟨kk,n,size,hk,h0,W,G,rfl⟩:=anr hq;cases L with
    |EM=>omega
    |Ee=>omega
    |fz hz A hv=>
    refine⟨_,?_,fpd (n.toNat*size) hz hv⟩;simp[execOp,HH,hk,Instr.indexAt,asIntOf,run_underlying hu,h0,W,eU G,jN]
   .cases hq
  .rename_i len e hu;split at hq
   .rename_i b off e';rw[e']at L;generalize HH:ev x=AV at*;cases L with
    |ptr D=>
    obtain⟨kk,n,size,hk,h0,W,G,rfl⟩:=key D hq;refine⟨_,?_,.ptr D⟩;exact avr
   .rename_i cs e';rw[e']at L;generalize HH:ev x=AV at*;obtain⟨kk,n,size,hk,h0,W,G,rfl⟩:=anr hq;cases L with
    |fp hz hv=>
    refine⟨_,?_,fpd (n.toNat*size) hz hv⟩;exact avr
   .cases hq
  .cases hq
 case unOp op t x=>
  replace hq:qUn P op (ae x)=J q:=hq;have L:=jd x gN;unfold qUn at hq;split at hq
  .rename_i AV hu;obtain rfl:=kq _ _ _ hu L;exact auH
  .cases hq
 case convert s d x=>refine Pw.qv (show qv (nA P h s d (ae x))=J q from hq) λv hv=>?_;have⟨hd,hz,TN⟩:=KM P hr (jd x gN) hv;exact⟨hd,by simp[execOp,hz],TN⟩
 case index t x i=>
  replace hq:so P t (ae x) (ae i)=J q:=hq;have L:=jd x gN;have H:=jd i gN;unfold so at hq;split at hq
  .rename_i AV hu;obtain rfl:=kq _ _ _ hu L;split at hq
   .rename_i u' TG;obtain rfl:=kq _ _ _ TG H;exact auH
   .cases hq
  .cases hq
 case slice t x lo H mx=>
  replace hq:A0 P t (ae x) (lo.map ae) (H.map ae) (mx.map ae)=J q:=hq;unfold A0 at hq;cases mx with
  |some mx=>
   simp only[eB]at hq;cases H with
   |none=>cases hq
   |some H=>
   simp only[eB]at hq;refine Pw.qv hq λv hv=>?_;have⟨hd,hz,TN⟩:=asU P (jd x gN) (XU.map (x:=lo) λy hy=>jd y (by simp[Op.operands,hy])) (jd H gN) (jd mx gN) hv w;exact⟨hd,by simp[execOp,hz],TN⟩
  |none=>
  simp only[Option.map_none]at hq;.refine Pw.qv hq λv hv=>?_;have⟨hd,hz,TN⟩:=Ib P (jd x gN) (XU.map (x:=lo) λy hy=>jd y (by simp[Op.operands,hy])) (XU.map (x:=H) λy hy=>jd y (by simp[Op.operands,hy])) hv w;exact⟨hd,by simp[execOp,hz],TN⟩
 case typeAssert x xt t ok=>
  replace hq:kH P (ae x) t ok=J q:=hq;have L:=jd x gN;unfold kH at hq;split at hq
  .rename_i t' v e;rw[e]at L;generalize HH:ev x=AV at*;cases L with
   |lP hv=>
   rename_i AV;split at hq;.cases hq
   .rename_i d z hu;cases ok with
    |true=>
     rw[au Z]at hq;split at hq
     .rename_i ht;injection hq with hq;subst hq;subst ht
      refine⟨.tuple #[AV,.bool M],?_,.dY (.cons hv (.cons (.g _) .nil))⟩;cases d<;>first|exact(z _ Z).elim|simp[execOp,HH,Instr.typeAssert,run_underlying hu]
     .rename_i ht;split at hq
      .rename_i hd hz;injection hq with hq;subst hq
       refine⟨.tuple #[hd,.bool R],?_,.dY (.cons (.g _) (.cons (.g _) .nil))⟩;cases d<;>first|exact(z _ Z).elim|simp[execOp,HH,Instr.typeAssert,run_underlying hu,ht,oq hz]
      .cases hq
    |false=>
     rw[ak bR]at hq;split at hq
     .rename_i ht;injection hq with hq;subst hq;subst ht
      refine⟨AV,?_,hv⟩;cases d<;>first|exact(z _ Z).elim|simp[execOp,HH,Instr.typeAssert,run_underlying hu]
     .cases hq
   .cases hq
  .cases hq
 case makeInterface t x=>
  replace hq:mH P t (ae x)=J q:=hq;unfold mH at hq;split at hq;.cases hq
  .cases hq
  .rename_i d z hu;injection hq with hq;subst hq
   refine⟨_,?_,.lP (jd x gN)⟩;simp only[execOp,Instr.makeInterface,Sem.run_bind,run_underlying hu,Result.andThen_ok];cases d<;>first|rfl|exact(z _ Z).elim
 case makeFunc fn first cap=>
  replace hq:qFn fn first cap ae=J q:=hq
  unfold qFn at hq;split at hq
  .rename_i f;split at hq
   .rename_i hf;injection hq with hq;subst hq
    have nP:first= #[]:=Mf hf
    subst nP;refine⟨_,?_,.fn (fv.map ae ev cap.toList λx L=>jd x (by simpa[Op.operands]using L))⟩;simp only[execOp,Instr.makeFunc,Sem.run_bind,Sem.run_pure,Result.andThen_ok];have:cap.map ev=(cap.toList.map ev).toArray:=by apply CC;simp
    rw[this,XR]
   .cases hq
  .cases hq
 case lookup t x i ok=>refine Pw.qv (show qv (nS P h t (ae x) (ae i) ok)=J q from hq) λv hv=>?_;have⟨hd,hz,TN⟩:=asW P hr (jd x gN) (jd i gN) hv;exact⟨hd,by simp[execOp,hz],TN⟩
 case alloc elem=>
  replace hq:Ae P elem=J q:=hq;unfold Ae at hq;split at hq
  .rename_i hd hz;injection hq with hq;subst hq
   obtain⟨v,hv,rfl⟩:=yQ hz;refine⟨_,?_,fv.tj (fv.Jn _) elem⟩;simp[execOp,Instr.alloc,oq hv,newVar,newRow]
  .cases hq
 case box elem x=>
  replace hq:Tc elem (ae x)=J q:=hq;unfold Tc at hq;split at hq
  .rename_i cs zU;injection hq with hq;subst hq
   have:=wG zU (jd x gN);refine⟨_,?_,fv.tj this elem⟩;simp[execOp,Instr.box,newVar,newRow]
  .cases hq
 case build t parts=>
  replace hq:vW P ae t parts.toList=J q:=hq;have Lt:∀x∈parts.toList,VR r (ae x.2) (ev x.2):=λx L=>jd x.2 (by simp only[Op.operands];simp;exact⟨x.1,by simpa using L⟩);unfold vW at hq;split at hq
  .rename_i hd hz;obtain⟨v,hv,rfl⟩:=yQ hz;unfold nE at hv;split at hv
   .rename_i it jA;have key:∀{place:Nat->Option (Nat×Nat)} {q},Kq (gl place ae parts.toList (v.cells.toList.map .g))=J q->
     ∃us cs,Instr.fill place v.cells (parts.toList.map λp=>(p.1,ev p.2))=J us/\q= .val (.agg cs)/\fv r cs us.toList:=by
     intro place q hq;unfold Kq at hq;split at hq
     .rename_i cs zU;injection hq with hq;subst hq
      have⟨us,W,F⟩:=uG parts.toList _ cs v.cells zU (fv.Jn _) Lt;exact⟨us,cs,W,Z,F⟩
     .cases hq
    have fin:∀(us:Array Value) (cs:List u),fv r cs us.toList->P.built t (parts.toList.map λp=>(p.1,ev p.2))=J us->Pw P r ev ⟨dst,.build t parts,type,pos,after,guard⟩ w (.val (.agg cs)):=by intro us cs va hbu;refine⟨_,?_,.agg va⟩;have:=run_build (P:=P) w t (parts.map λ(i,x)=>(i,ev x)) us (Mf hbu);simp[execOp,this]
    split at hq
    .rename_i fs hu;split at hq
     .rename_i pl yW;obtain⟨us,cs,W,rfl,F⟩:=key hq;refine fin us cs F ?_;simp only[fieldsOf,hu]at yW;simp only[Program.built,jA,hu,hv,yW];rw[<-W]
      congr 1
      funext i
      simp[xi]
     .cases hq
    .rename_i n e hu;split at hq
     .rename_i size G;obtain⟨us,cs,W,rfl,F⟩:=key hq;refine fin us cs F ?_;unfold cZ at G;split at G
      .rename_i ie hie;injection G with G;subst G
       simp only[Program.built,jA,hu,hv,hie];exact W
      .cases G
     .cases hq
    .cases hq
   .cases hv
  .cases hq
 case buildSlice t len parts=>
  replace hq:gI P ae t len parts.toList=J q:=hq;have Lt:∀x∈parts.toList,VR r (ae x.2) (ev x.2):=λx L=>jd x.2 (by simp only[Op.operands];simp;exact⟨x.1,by simpa using L⟩);unfold gI at hq;split at hq
  .rename_i e hu;split at hq
   .rename_i size G;split at hq
    .rename_i hd hz;split at hq
     .rename_i A;obtain⟨v,hv,rfl⟩:=yQ hz;simp only[aS,fK,kN,fQ]at A;unfold ig at hq;split at hq
      .rename_i cs zU;injection hq with hq;subst hq
       have⟨us,W,F⟩:=uG parts.toList _ cs (gT len v.cells.toList).toArray zU (by simpa using(fv.Jn v.cells.toList).rep len) Lt;refine⟨_,?_,fv.tj F e⟩;have JG:(Array.range (len*size)).map (λi=>v.cells[i%v.cells.size]!)=(gT len v.cells.toList).toArray:=vV v.cells len _ (by rw[A.2]);have al1:¬len*size>2^24:=U;by_cases h0:len*size=0
       .have ahz:(gT len v.cells.toList).toArray= #[]:=by rw[<-JG,h0,HD,XR]
        rw[ahz]at W;simp[execOp,Instr.buildSlice,run_underlying hu,eU G,h0,HD,W,newRow]
       .simp only[gt_iff_lt,Nat.not_lt]at al1;simp[execOp,Instr.buildSlice,run_underlying hu,eU G,al1,h0,oq hv,JG,W,newRow]
      .cases hq
     .cases hq
    .cases hq
   .cases hq
  .cases hq
 case makeMap t x=>
  replace hq:WB P t (x.map ae)=J q:=hq;unfold WB at hq;cases x with
  |none=>
   injection hq with hq;subst hq
   exact⟨_,by simp[execOp,Instr.makeMap],[],Z,.nil⟩
  |some x=>
   have L:=jd x gN;simp only[eB]at hq;split at hq
   .rename_i k e hu;split at hq
    .rename_i p hp;injection hq with hq;subst hq
     have H:=kE (k:=p.1) (n:=p.2) hp L;exact⟨_,by simp[execOp,Instr.makeMap,run_underlying hu,H,asInt,asIntOf],[],Z,.nil⟩
    .cases hq
   .cases hq
 case range t x=>
  replace hq:Bf P t h (ae x)=J q:=hq;have L:=jd x gN;unfold Bf at hq;split at hq
  .rename_i hu;split at hq
   .rename_i b hax;split at hq
    .rename_i es ck hh;injection hq with hq;subst hq
     rw[hax]at L;obtain⟨k',n',D,TG⟩:∃k n,r b=J (k,n)/\ev x= .map (J k):=by
      generalize ev x=AV at L;cases L with
      |mp h=>exact⟨_,_,h,Z⟩
     have⟨l,e1,e2⟩:=hr.obj _ _ _ _ hh D;exact⟨.mapIter (J k') ck #[] ck,by simp[execOp,Instr.range,run_underlying hu,TG,getObj,newObj,Sem.run,e1],k',n',ck,#[],ck,D,Z⟩
    .cases hq
   .cases hq
  .cases hq
 case next it s=>
  replace hq:BS h (ae it) s=J q:=hq;have L:=jd it gN;unfold BS at hq;split at hq;.cases hq
  split at hq
  .rename_i b hax;split at hq
   .rename_i m hh;rw[hax]at L;obtain⟨k',n',D,TG⟩:∃k n,r b=J (k,n)/\ev it= .pointer (J ⟨k,0,B⟩):=by
     generalize ev it=AV at L;cases L with
     |ptr h=>exact⟨_,_,h,Z⟩
    have⟨k2,q2,s2,seen,last,hm,e1⟩:=hr.obj _ _ _ _ hh D;unfold KI at hq;split at hq
    .rename_i ck hg;injection hq with hq;subst hq
     have⟨l,e2,e3⟩:=hr.obj _ _ _ _ hg hm;cases e3;refine⟨.tuple #[.bool R],?_,.dY (c:=[.bool R]) (.cons (.g _) .nil)⟩;simp[execOp,Instr.next,TG,getObj,Sem.run,e1,e2,choose,Question.forced]
    .cases hq
   .cases hq
  .cases hq
 case makeSlice t l c=>
  replace hq:sg P t (ae l) (ae c)=J q:=hq;unfold sg at hq;split at hq
  .rename_i e hu;split at hq
   .rename_i ln K;split at hq
    .rename_i cn Ry;have⟨kl,mJ⟩:=yw K (jd l gN);have⟨kc,yi⟩:=yw Ry (jd c gN);unfold PZ at hq;split at hq
     .rename_i size G;split at hq
      .rename_i bytes hby;split at hq
       .rename_i hd hz;split at hq
        .rename_i A;injection hq with hq;subst hq
         obtain⟨v,hv,rfl⟩:=yQ hz;simp only[aS,fK,kN,fQ]at A;have⟨⟨⟨W,F⟩,h3⟩,h4⟩:=A;have⟨i,H,Yi⟩:=MG hby w;have JG:(Array.range (cn*size)).map (λi=>v.cells[i%v.cells.size]!)=(gT cn v.cells.toList).toArray:=vV v.cells cn _ (by rw[h4]);refine⟨_,?_,gT cn v.cells.toList,Z,(fv.Jn v.cells.toList).rep cn⟩;have wl:IntKind.i64.wrap (ln:Int)=ln:=Es IntKind.wrap_i64
         have wc:IntKind.i64.wrap (cn:Int)=cn:=Es IntKind.wrap_i64
         have Ws:bytes*cn<=65536*65536:=Gl h3 F;have hprod':((bytes:Int)*(cn:Int))<=4294967296:=by have:((bytes*cn:Nat):Int)<=((65536*65536:Nat):Int):=Cq.2 Ws;simpa using this
         have c1:¬((cn:Int)<0):=U;have c2:¬(281474976710656<(bytes:Int)*(cn:Int)):=U;have c3:¬((ln:Int)<0):=U;have c4:¬(cn<ln):=U;by_cases h0:cn*size=0
         .have ahz:(gT cn v.cells.toList).toArray= #[]:=by rw[<-JG,h0,HD,XR]
          simp only[execOp,Instr.makeSlice,mJ,yi,Sem.run_bind,run_underlying hu,Result.andThen_ok,asInt,asIntOf,Sem.run_pure,H,Yi,wl,wc];simp[c1,c2,c3,c4,eU G,h0,newRow,ahz,HD]
         .simp only[execOp,Instr.makeSlice,mJ,yi,Sem.run_bind,run_underlying hu,Result.andThen_ok,asInt,asIntOf,Sem.run_pure,H,Yi,wl,wc];simp[c1,c2,c3,c4,eU G,h0,newRow,oq hv,JG]
        .cases hq
       .cases hq
      .cases hq
     .cases hq
    .cases hq
   .cases hq
  .cases hq
 case call c=>
  replace hq:wM P h ae c=J q:=hq;have⟨callee,args,argTypes⟩:=c;simp only[Op.operands,Call.operands]at jd;unfold wM at hq;dsimp only at hq;split at hq
  .rename_i b;split at hq
   .rename_i x zJ;have rJ:args= #[x]:=by rw[<-fg (xs:=args),zJ]
    subst rJ;have L:=jd x bR;split at hq
    .rename_i t ht;have xW:argTypes= #[t]:=by rw[<-fg (xs:=argTypes),ht]
     subst xW;split at hq;.refine Pw.qv hq λv hv=>?_;have⟨hd,hz,TN⟩:=Nu P (ty:=type) hr L hv;exact⟨hd,by simp[execOp,resolve,invoke,builtin,hz],TN⟩
     .split at hq
      .rename_i e hu;unfold Uy at hq;split at hq
       .rename_i b off len cap e';exact atY
       .rename_i ad len cap e';exact atY
       .cases hq
      .cases hq
     .cases hq
    .cases hq
   .rename_i x y zJ;have rJ:args= #[x,y]:=by rw[<-fg (xs:=args),zJ]
    subst rJ;split at hq
    .unfold Xp at hq;split at hq
     .rename_i AV hu;have tI:=kq _ _ _ hu (jd x bR);split at hq
      .rename_i u' TG;have hyu:=kq _ _ _ TG (jd y bR);split at hq
       .rename_i hd hz;injection hq with hq;subst hq
        have:=jy P _ _ hz w;exact⟨hd,by simp[execOp,resolve,invoke,builtin,Builtin.min_,tI,hyu,this],.g hd⟩
       .cases hq
      .cases hq
     .cases hq
    .unfold Sh at hq;split at hq
     .rename_i AV hu;have tI:=kq _ _ _ hu (jd x bR);split at hq
      .rename_i u' TG;have hyu:=kq _ _ _ TG (jd y bR);split at hq
       .rename_i hd hz;injection hq with hq;subst hq
        have:=jy P _ _ hz w;exact⟨hd,by simp[execOp,resolve,invoke,builtin,Builtin.max_,tI,hyu,this],.g hd⟩
       .cases hq
      .cases hq
     .cases hq
    .cases hq
   .cases hq
  .cases hq
 all_goals cases hq
variable{sCap sLen:Nat}
def Src(P:Program)(t':TypeId)(hd:Value)(size n:Nat)(x:Value)(new:List Value)(w:World):Prop:=
 (∃e',P.underlying t'=J (.slice e')/\Builtin.lenOf x=pure n/\∀w',w'.heap=w.heap->(Builtin.firstCells size n x).run P w'= .ok new.toArray w')\/
 (∃kn k,P.underlying t'=J (.int kn)/\x= .int k n/\new=gT n hd.cells.toList)
section
variable{P:Program}(w:World){t t' ty e:TypeId}{i:TypeInfo}{hd:Value}(ht:P.underlying t=J (.slice e))(H:P.info? e=J i)(hz:i.zero=J hd)
 (D:i.bytes<65536) (G:0<i.size) {n:Nat} (hn:n<65536) {x:Value} {new:List Value} (yn:Src P t' hd i.size n x new w)
include ht H hz D G hn yn
omit hz D G in
def abF(h0:n=0){base}(A:sLen<=sCap):
 (Builtin.append_ #[t,t'] ty #[.slice base sLen sCap,x]).run P w= .ok (.slice base sLen sCap) w:=by
 subst h0;obtain⟨e',xW,K,hf⟩|⟨kn,k,xW,rfl,rfl⟩:=yn
 .have sC:new=[]:=by
   have:=hf w Z;have F:(Builtin.firstCells i.size 0 x).run P w= .ok #[] w:=by
    cases x<;>simp[Builtin.lenOf]at K
    all_goals first|(cases K;done)|skip
    .rename_i s;simp[Builtin.firstCells]at this⊢
    .rename_i a _ _;cases a<;>simp[Builtin.firstCells,loadCells,loadCellsFrom]
   rw[F]at this;injection this with this
   simpa using this.symm
  subst sC;have nP:=hf w Z;cases base with
  |none=>simp[Builtin.append_,run_underlying ht,run_underlying xW,sizeOf,typeInfo,H,K,nP,A]
  |some a=>simp[Builtin.append_,run_underlying ht,run_underlying xW,sizeOf,typeInfo,H,K,nP,A,storeCells]
 .have hw:IntKind.i64.wrap (0:Int)=0:=Es IntKind.wrap_i64
  cases base with
  |none=>simp[Builtin.append_,run_underlying ht,run_underlying xW,sizeOf,typeInfo,H,A,asInt,asIntOf,hw]
  |some a=>simp[Builtin.append_,run_underlying ht,run_underlying xW,sizeOf,typeInfo,H,A,asInt,asIntOf,hw,storeCells]
def IB{a:Addr}(h0:n≠0)(A:sLen+n<=sCap)(jS:(storeCells (a.add (sLen*i.size)) new).run P w= .ok () w'):
 (Builtin.append_ #[t,t'] ty #[.slice (J a) sLen sCap,x]).run P w= .ok (.slice (J a) (sLen+n) sCap) w':=by
 obtain⟨e',xW,K,hf⟩|⟨kn,k,xW,rfl,rfl⟩:=yn;.have nP:=hf w Z;simp[Builtin.append_,run_underlying ht,run_underlying xW,sizeOf,typeInfo,H,K,nP,A,jS]
 .have hw:IntKind.i64.wrap (n:Int)=n:=Es IntKind.wrap_i64
  have agd:¬((n:Int)<0):=U;have Ws:((n:Int)*(i.bytes:Int))<=4294967296:=by have W:n*i.bytes<=65536*65536:=Gl U U;have:((n*i.bytes:Nat):Int)<=((65536*65536:Nat):Int):=Cq.2 W;simpa using this
  have h48:¬(281474976710656<(n:Int)*(i.bytes:Int)):=U;have hns:¬(n*i.size=0):=Nat.mul_ne_zero h0 U;have hzc:Builtin.zeroCells hd.cells n=(gT n hd.cells.toList).toArray:=vV hd.cells n _ Z;simp[Builtin.append_,run_underlying ht,run_underlying xW,sizeOf,typeInfo,zeroValue,H,hz,A,asInt,asIntOf,hw,agd,h48,hns,hzc,jS]
def Cp{base}(h0:n≠0)(A:sCap<sLen+n)(cf:sLen+n<131072){old:Array Value}(hfo:(Builtin.firstCells i.size sLen (.slice base sLen sCap)).run P w.drew= .ok old w.drew):
 (Builtin.append_ #[t,t'] ty #[.slice base sLen sCap,x]).run P w= .ok (.slice (J ⟨w.heap.size,0,B⟩) (sLen+n) (grownCap w (sLen+n) sCap e))
  (w.drew.alloc (.cells (old++new.toArray++Builtin.zeroCells hd.cells (grownCap w (sLen+n) sCap e-(sLen+n))) e)):=by
 have hnc:¬(sLen+n<=sCap):=U;have alA:¬(9223372036854775807<((sLen:Int)+(n:Int))):=U;have hmul:(sLen+n)*i.bytes<=131072*65536:=Gl U U;have ajU:¬(281474976710656<Builtin.nextslicecap (sLen+n) sCap*i.bytes):=EB (growslice_fits (need:=sLen+n) (old:=sCap) (bytes:=i.bytes) A U)
 obtain⟨e',xW,K,hf⟩|⟨kn,k,xW,rfl,rfl⟩:=yn;.have nP:=hf w.drew Z;simp[Builtin.append_,run_underlying ht,run_underlying xW,sizeOf,typeInfo,zeroValue,H,hz,K,hnc,alA,ajU,Question.forced,nP,hfo,newRow,grownCap]
 .have hw:IntKind.i64.wrap (n:Int)=n:=by rw[IntKind.wrap_i64];omega
  have agd:¬((n:Int)<0):=U;have Ws:((n:Int)*(i.bytes:Int))<=4294967296:=by have W:n*i.bytes<=65536*65536:=Gl U U;have:((n*i.bytes:Nat):Int)<=((65536*65536:Nat):Int):=Cq.2 W;simpa using this
  have h48:¬(281474976710656<(n:Int)*(i.bytes:Int)):=U;have hns:¬(n*i.size=0):=Nat.mul_ne_zero h0 U;have hzc:Builtin.zeroCells hd.cells n=(gT n hd.cells.toList).toArray:=vV hd.cells n _ Z;simp[Builtin.append_,run_underlying ht,run_underlying xW,sizeOf,typeInfo,zeroValue,H,hz,asInt,asIntOf,hw,agd,h48,hns,hzc,hnc,alA,ajU,Question.forced,hfo,newRow,grownCap]
end
def sO{P w}(hr:HR r h Y w0 w){off}(D:r b=J (k,m)){l}(K:dt h b off n=J l):
 ∃vs,fv r l vs/\O vs=n/\∀(w':World),w'.heap=w.heap->(loadCells ⟨k,off,B⟩ n).run P w'= .ok vs.toArray w':=by
 have⟨vs,va,cf,kg,_⟩:=oL hr D K;refine⟨vs,va,cf,λw' hw=>?_⟩;have:=run_loadCells_list (P:=P) w' ⟨k,off,B⟩ vs (λj v hj=>by have:=kg j v hj;simp only[World.cell?,hw]at this⊢;exact this);rw[cf]at this;exact this
def Nm(P){w}(hr:HR r h Y w0 w){hd:Value}{t' x}(L:VR r a x){l}
 (V:RL P h size (hd.cells.toList.map .g) t' a=J (n,l)):∃new,fv r l new/\Src P t' hd size n x new w/\(hd.cells.size=size->O new=n*size):=by
 unfold RL at V;split at V
 .rename_i kn xW;split at V
  .rename_i m hm;injection V with V;injection V with W F;subst W;subst F
   obtain⟨k,rfl⟩:=yw hm L;exact⟨_,(fv.Jn _).rep _,.inr ⟨kn,k,xW,Z,Z⟩,λhz=>by rw[vS];simp[hz]⟩
  .cases V
 .rename_i e' xW;unfold eD at V;split at V
  .cases L;split at V
   .rename_i hn;injection V with V;injection V with W F;subst W;subst F;subst hn
    exact⟨[],.nil,.inl ⟨e',xW,Z,λw' _=>rfl⟩,λ_=>bR⟩
   .cases V
  .cases L with
   |sl D=>
   exact atP
  .cases L with
   |og D hn=>
   exact atP
  .cases L with
   |sle=>
   injection V with V;injection V with W F;subst W;subst F
   exact⟨[],.nil,.inl ⟨e',xW,Z,λw' _=>by simp[Builtin.firstCells,loadCells,loadCellsFrom]⟩,λ_=>bR⟩
  .injection V with V;injection V with W F;subst W;subst F
   cases L with
   |N9=>exact⟨[],.nil,.inl ⟨e',xW,Z,λw' _=>by simp[Builtin.firstCells]⟩,λ_=>bR⟩
   |Pu=>exact⟨[],.nil,.inl ⟨e',xW,Z,λw' _=>by simp[Builtin.firstCells,loadCells,loadCellsFrom]⟩,λ_=>bR⟩
  .rename_i n' cs;split at V
   .rename_i zk;injection V with V;injection V with W F;subst W;subst F
    cases L with
    |EM=>exact⟨[],.nil,.inl ⟨e',xW,Z,λw' _=>by simp[Builtin.firstCells]⟩,λ_=>bR⟩
    |Ee=>exact⟨[],.nil,.inl ⟨e',xW,Z,λw' _=>by simp[Builtin.firstCells,loadCells,loadCellsFrom]⟩,λ_=>bR⟩
    |fz hz A hv=>rename_i k off cap vs;have K:=hv.length;have kg:=AN hr hz;refine⟨vs,hv,.inl ⟨e',xW,Z,λw' hw=>?_⟩,λ_=>U⟩;have:=run_loadCells_list (P:=P) w' ⟨k,off,B⟩ vs (λj v hj=>by have:=kg j v hj;rw[jN];simp only[World.cell?,hw]at this⊢;exact this);rw[show O vs=n'*size from U]at this;simpa[Builtin.firstCells]using this
   .cases V
  .cases V
 .cases V
def Ls(P:Program)(r:dI)(h:aE)(Y:Nat)(w0 w:World)(s:Sem Next):ER->Prop
 | .val v Q=>∃n AV w',s.run P w= .ok n w'/\(n= .value AV\/(n= .skip/\AV=undef))/\VR r v AV/\HR r Q Y w0 w'
 | .rf o len Q=>∃k aw w',s.run P w= .ok (.value (.slice (J ⟨k,0,B⟩) len aw)) w'/\len<=aw/\r Y=B/\HR (r.upd Y (k,aw)) (aI Q Y o) (Y+1) w0 w'
 | .enter f args=>∃as:List Value,s.run P w= .ok (.enter f as.toArray) w/\fv r args as
 | .defer d=>∃d',s.run P w= .ok (.defer d') w/\DR r d d'
 | .round l args=>∃k n as lo al,r l=J (k,n)/\N h l=J (.loop al)/\w.heap[k]?=J (.loop lo)/\LR r al lo/\fv r args as/\O al.params=O args/\
  s.run P w= .ok (.round k lo.fn ((lo.params.zip as.toArray).foldl (λtmps (t,a)=>tmps.setIfInBounds t a) lo.tmps) lo.assign lo.body) w
def pK(hd n):(Builtin.zeroCells hd n).size=n*hd.size:=by simp[Builtin.zeroCells]
def fv.tS{l}(hv:fv r l us)(h:l.all u.dh=M):∀AV∈us,AV.oneCell'=M:=by intro AV hu;have⟨x,L,tI⟩:=hv.mem AV hu;exact yO (fU.1 h x L) tI
variable{aw:Nat}{er:ER}{types:Array TypeId}
def HR.rf(hr:HR r Q Y w0 w)(hh:Q=h){e}{c c':List Value}(hv:fv r cs c)(K:O (c++c')=aw*size){a}(ha:a=(c++c').toArray):
 HR (r.upd Y (w.heap.size,aw)) (aI h Y (.fM cs e size)) (Y+1) w0 (w.drew.alloc (.cells a e)):=by
 subst hh;subst ha;refine(hr.drew).alloc (o:= .fM cs e size) (hr.fresh (an _)) (aZ _) (bG _) (by simp[aj]) (λb x e=>?_) ⟨c,c',Z,hv,K⟩;rw[aj,ak];have:=(hr.zX b x e).1;omega
def gi{s:Sem Value}{v}(h:s.run P w= .ok v w'):(do pure (.value (<-s)):Sem Next).run P w= .ok (.value v) w':=by simp only[Sem.run_bind,h,Result.andThen_ok,Sem.run_pure]
def HN(P)(hr:HR r h Y w0 w){ty s x vs vx}(G:VR r s vs)(L:VR r x vx)
 (V:iJ P h types s x=J er):Ls P r h Y w0 w (do pure (.value (<-Builtin.append_ types ty #[vs,vx]))) er:=by
 unfold iJ at V;split at V
 .rename_i t t' zQ;have Kt:types= #[t,t']:=by rw[<-fg (xs:=types),zQ]
  subst Kt;split at V
  .rename_i e ht;unfold UU at V;split at V
   .rename_i size vj;split at V
    .rename_i bytes Nj;split at V
     .rename_i zl hz;split at V
      .rename_i p hp;split at V
       .rename_i tm;have⟨n,l⟩:=p;unfold dS at hz;unfold cZ at vj;unfold lO at Nj;split at hz
        .rename_i i H;simp only[H,bF]at vj Nj;split at hz
         .rename_i hd JG;injection hz with hz;subst hz
          simp only[RM,aS,fK,kN,fQ]at tm;have⟨⟨⟨⟨o1,o2⟩,o3⟩,o4⟩,o5⟩:=tm;have⟨new,sC,yn,cf⟩:=Nm (w:=w) P hr L hp;have cf:=cf o5;subst vj;subst Nj;unfold qV at V;simp only at V;split at V
          ·
           rename_i h0;have key:∀{base:Option Addr} {sLen sCap:Nat},sLen<=sCap->(Builtin.append_ #[t,t'] ty #[.slice base sLen sCap,vx]).run P w= .ok (.slice base sLen sCap) w:=
            λA=>abF w ht H o4 yn h0 A
           unfold yA at V;split at V
           .split at V
            .rename_i A;injection V with V;subst V
             cases G with
             |sl D=>
             exact⟨_,_,w,gi (key A),.inl Z,.sl D,hr⟩
            .cases V
           .injection V with V;subst V
            rename_i b off j len;cases G with
            |og D hn=>
            rename_i k aw;have hk:=key (base:=J ⟨k,off,B⟩) (sLen:=len) (sCap:=aw-j) U;exact⟨_,_,w,gi hk,.inl Z,.og D hn,hr⟩
           .injection V with V;subst V
            cases G;exact⟨_,_,w,gi (key (an _)),.inl Z,.g _,hr⟩
           .injection V with V;subst V
            cases G with
            |N9=>exact⟨_,_,w,gi (key (an _)),.inl Z,.N9,hr⟩
            |Pu=>exact⟨_,_,w,gi (key (an _)),.inl Z,.Pu,hr⟩
           .injection V with V;subst V
            cases G with
            |EM=>exact⟨_,_,w,gi (key (an _)),.inl Z,.EM,hr⟩
            |Ee=>exact⟨_,_,w,gi (key (aQ _)),.inl Z,.Ee,hr⟩
            |fz hz A hv=>exact⟨_,_,w,gi (key A),.inl Z,.fz hz A hv,hr⟩
           .cases V
          .rename_i h0;split at V
           ·
            injection V with V;subst V
            cases G;have eV:=Cp (P:=P) w (ty:=ty) ht H JG o3 o1 o4 yn (base:=B) (sLen:=0) (sCap:=0) h0 U U (old:= #[]) Z;exact ats
           ·
            injection V with V;subst V
            have grow:∀(base:Option Addr),vs= .slice base 0 0->Ls P r h Y w0 w (do pure (.value (<-Builtin.append_ #[t,t'] ty #[vs,vx]))) (.rf (.fM l e i.size) n h):=by
             intro base va;subst va;have eV:=Cp (P:=P) w (ty:=ty) ht H JG o3 o1 o4 yn (base:=base) (sLen:=0) (sCap:=0) h0 U U (old:= #[]) (by cases base<;>simp[Builtin.firstCells,loadCells,loadCellsFrom]);exact ats
            cases G with
            |N9=>exact grow _ Z
            |Pu=>exact grow _ Z
           ·
            rename_i b off len cap;cases G with
            |sl D=>
            rename_i k m;unfold TW at V;split at V
            .rename_i A;split at V
             .rename_i kg;split at V
              .rename_i Q jS;injection V with V;subst V
               have⟨w',eV,qE,_⟩:=mS P hr D sC (sC.tS kg) jS;have:=IB (P:=P) w (ty:=ty) ht H JG o3 o1 o4 yn (a:=⟨k,off,B⟩) h0 A (by rw[jN];exact eV);exact⟨_,_,w',gi this,.inl Z,.sl D,qE⟩
              .cases V
             .cases V
            .rename_i A;split at V;.cases V
             .rename_i mA;split at V
              .rename_i old hold;injection V with V;subst V
               have⟨ovs,hovs,holen,horun⟩:=sO (P:=P) hr D hold;have eV:=Cp (P:=P) w (ty:=ty) ht H JG o3 o1 o4 yn (base:=J ⟨k,off,B⟩) (sLen:=len) (sCap:=cap) h0 U U (old:=ovs.toArray) (horun w.drew Z);have DF:=grownCap_ge w (len+n) cap e;refine⟨w.heap.size,grownCap w (len+n) cap e,_,gi eV,U,hr.fresh (an _),?_⟩;have hzl:(Builtin.zeroCells hd.cells (grownCap w (len+n) cap e-(len+n))).size=(grownCap w (len+n) cap e-(len+n))*i.size:=by rw[pK,o5]
               refine hr.rf Z (hovs.append sC) (c':=(Builtin.zeroCells hd.cells (grownCap w (len+n) cap e-(len+n))).toList) ?_ bR;simp only[aq,fQ,hzl,cf,holen,<-bC]
               congr 1
               omega
              .cases V
           ·
            rename_i b off j len;cases G with
            |og D hn=>
            rename_i k aw;unfold Ww at V;split at V
            .rename_i cs e' es ho;split at V
             .rename_i Qg;obtain⟨rfl,ams,rfl⟩:=Qg;obtain⟨c,c',hk,zU,zk⟩:=hr.obj b _ k aw ho D;have apx:=zU.length;split at V;.cases V
              .rename_i kg;have kg:l.all u.dh=M:=Mf kg
               split at V
               .rename_i hle;split at V
                .rename_i Q jS;injection V with V;subst V
                 have⟨w',eV,qE,_⟩:=mS P hr D sC (sC.tS kg) jS;have nG:j+(len+n)<=aw:=by
                  have W:(j+(len+n))*i.size<=aw*i.size:=by rw[<-zk,aq,<-apx,bC,<-ams];omega
                  exact Nat.le_of_mul_le_mul_right W o1
                 have:=IB (P:=P) w (ty:=ty) ht H JG o3 o1 o4 yn (a:=⟨k,off,B⟩) (sLen:=len) (sCap:=aw-j) h0 U (by rw[jN];exact eV);exact⟨_,_,w',gi this,.inl Z,.og D nG,qE⟩
                .cases V
               .split at V
                .rename_i Ji;obtain⟨arW,rfl,mA⟩:=Ji;injection V with V;subst V
                 have akR:off=0:=by rw[ams];simp
                 subst akR;have aea:O c=len*i.size:=U;have arj:=(hr.zX b _ D).1;by_cases qL:len+n<=aw
                 ·
                  have aeI:0+(len*i.size)+O new<=(c++c').toArray.size:=by have:(len+n)*i.size<=aw*i.size:=aM _ qL;rw[bC]at this;simp only[y9,zk,cf];omega
                  have jS:=run_storeCells_at P k (len*i.size) e' new 0 (c++c').toArray w hk (Mf aeI) (sC.tS kg);have:=IB (P:=P) w (ty:=ty) ht H JG o3 o1 o4 yn (a:=⟨k,0,B⟩) (sLen:=len) (sCap:=aw-0) h0 U (by rw[jN,fC];exact jS);refine⟨k,aw,_,gi this,qL,hr.fresh (an _),?_⟩;refine hr.DL D ho trivial U (o':= .fM (cs++l) e' i.size) (n':=aw) ⟨c++new,c'.drop (O new),?_,zU.append sC,?_⟩ (tz hk _)
                  .have a1:(c++c').take (len*i.size+0)=c:=by rw[dP,<-aea];simp
                   have a2:(c++c').drop (len*i.size+0+O new)=c'.drop (O new):=by rw[dP,<-aea,<-lM];simp
                   simp only[a1,a2]
                  .simp only[y9]at aeI;simp only[aq,aC]at zk aeI⊢;omega
                 ·
                  have dt:dt h b 0 (len*i.size)=J cs:=by
                   have z:dV 0 cs=J cs:=rfl;have vz:∀(m:Nat) (q:List u),m=O q->dC m q=J q:=by
                    intro m q hm;subst hm
                    induction q with
                    |nil=>rfl
                    |cons a q ih=>show Option.rec (motive:=λ_=>Option (List u)) B (λr=>J (a::r)) (dC (O q) q)=_;rw[ih]
                   simp only[br.dt,ho,AO.cells?,z];exact vz _ _ U
                  have⟨ovs,hovs,holen,horun⟩:=sO (P:=P) hr D dt;have eV:=Cp (P:=P) w (ty:=ty) ht H JG o3 o1 o4 yn (base:=J ⟨k,0,B⟩) (sLen:=len) (sCap:=aw-0) h0 U U (old:=ovs.toArray) (horun w.drew Z);have DF:=grownCap_ge w (len+n) (aw-0) e';refine⟨w.heap.size,grownCap w (len+n) (aw-0) e',_,gi eV,U,hr.fresh (an _),?_⟩;have hzl:(Builtin.zeroCells hd.cells (grownCap w (len+n) (aw-0) e'-(len+n))).size=(grownCap w (len+n) (aw-0) e'-(len+n))*i.size:=by rw[pK,o5]
                  refine(hr.kill b).rf Z (hovs.append sC) (c':=(Builtin.zeroCells hd.cells (grownCap w (len+n) (aw-0) e'-(len+n))).toList) ?_ bR;simp only[aq,fQ,hzl,cf,holen,<-bC]
                  congr 1
                  omega
                .cases V
             .cases V
            .cases V
           .cases V
         .cases hz
        .cases hz
       .cases V
      .cases V
     .cases V
    .cases V
   .cases V
  .cases V
 .cases V
end
end br
end Go.Proofs.YtonnifoeokagjaaGreat
