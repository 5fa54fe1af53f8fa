/- The theorem plans_holds of OrdersPlans: part 12 of its proof; no conditions. -/
import Derived.Test.YtonnifoeokagjaaGreatF11
namespace Go.Proofs.YtonnifoeokagjaaGreat
set_option linter.all false
set_option maxRecDepth 8000
open Go Go.RowKit
open Tryz
open Nat(reduceAdd reduceMul)
namespace bC
noncomputable section
def Lf.upd(l:Lf)(i:Nat)(s:Sl):Lf:={l with sl:=l.sl.set (l.ds.getD i 0) s}
def Lf.ins(l:Lf)(i:Nat)(s:Sl):Lf:={l with n:=l.n+1,ds:=mv l.ds l.n i,sl:=l.sl.set (l.ds.getD l.n 0) s}
theorem KX:∀(l:List Sl),(l.flatMap Sl.cells).all AV.cy=true
 |[]=>rfl
 |a::l=>by rw[bG,tL,KX l];rfl
theorem gN(l:Lf):l.cells.all AV.cy=true:=by unfold Lf.cells;rw[List.all_cons,tL,KX];rfl
def ahb:Nat->cU:=λid=>if id=8 then[([0,1],[],some 2),([],[1],some 3),([],[],some 4),([],[],none)]else[]
theorem Jq(l:Lf)(R:l.R)(s:Sl)(hs:s.R)(hc:l.dI s.m=true)(i:Nat)(pl:l.Pl s.m i)(hn:l.n<15):
 bo 320 [l.av,.agg s.cells] (if i<l.n/\(l.e i).m=s.m then .dN [(l.upd i s).av,.agg (l.e i).cells,bQ true]else .dN [(l.ins i s).av,.agg zs.cells,bQ false]):=by
 refine bo.ac 2 ahb func320 λh nx=>?_;have hl:=R.sl;have hi:=pl.le;have f0:=JR hl;have fa:=jU hl;have d0:¬(nx=nx+1):=ah;have d1:¬(nx=nx+1+1):=ah;have d2:¬(nx=nx+1+1+1):=ah;have d3:¬(nx+1=nx+1+1):=ah;have d4:¬(nx+1=nx+1+1+1):=ah;have d5:¬(nx+1+1=nx+1+1+1):=ah;have d6:¬(nx+1+1+1=nx+1+1):=ah;have d7:¬(nx+1+1+1=nx):=ah;have d8:¬(nx+1+1=nx):=ah;simp+decide-dsimp only[f320,go_sem,kW,fa,d0,d1,d2];refine aZ (YH l R) ?_;simp+decide-dsimp only[go_sem,d3,d4];refine aZ (ail s hs) ?_;simp+decide-dsimp only[go_sem,fa,d0,d1,d2,d3,d4];refine aZ (XD l hl R.hi s.m hs.m) ?_;rw[hc];simp+decide-dsimp only[go_sem,fa,d0,d1,d2,d3,d4];refine aZ (Qq l R s.m hs.m i pl) ?_;by_cases hf:i<l.n/\(l.e i).m=s.m
 .rw[aw hf];simp+decide-dsimp only[go_sem,hf,f0,d0,d1,d2];refine aZ (R.p.Dc R.n ah) ?_;have hd:=R.p.mo i;have fs:=Dv hl hd;have he:l.sl.getD (l.ds.getD i 0) zs=l.e i:=rfl;rw[he]at fs;have fp:dJ (1+l.ds.getD i 0*7) l.cells s.cells=some (l.upd i s).cells:=yn hl hd s;have oh:(l.upd i s).sl.length=15:=by show(List.set _ _ _).length=15;rw[eJ];exact hl
  have fa':=jU oh;have fl':=dW oh;have ft:=ji (a:=vG) (b:=l.upd i s) rfl oh;simp+decide-dsimp only[go_sem,ahb,hd,fs,fp,fa',fl',gN,ft,d0,d1,d2,d3,d4,d5,d6,d7,d8,reduceAdd];refine .dT ?_ (.lZ (.cQ (uC _)) (.cQ (sP (l.e i))) .cA) rfl;exact jh
 .rw[ak hf];simp+decide-dsimp only[go_sem,hf,f0,d0,d1,d2];refine aZ (R.p.acm hn hi) ?_;have hd:=R.p.mo l.n;have fw:dJ 0 l.cells [u64 (pw (l.n+1) (mv l.ds l.n i):Nat)]=some ({l with n:=l.n+1,ds:=mv l.ds l.n i}:Lf).cells:=Bq hl;have fp:dJ (1+l.ds.getD l.n 0*7) ({l with n:=l.n+1,ds:=mv l.ds l.n i}:Lf).cells s.cells=some (l.ins i s).cells:=yn (l:={l with n:=l.n+1,ds:=mv l.ds l.n i}) hl hd s;have oh:(l.ins i s).sl.length=15:=by show(List.set _ _ _).length=15;rw[eJ];exact hl
  have fa':=jU oh;have fl':=dW oh;have ft:=ji (a:=vG) (b:=l.ins i s) rfl oh;simp+decide-dsimp only[go_sem,hd,fw,fp,fa',fl',gN,ft,d0,d1,d2,d3,d4,d5,d6,d7,d8,reduceAdd];refine .dT ?_ (.lZ (.cQ (uC _)) (.cQ (sP zs)) .cA) rfl;exact jh
def Lf.del(l:Lf)(i:Nat):Lf:={l with n:=l.n-1,ds:=mv l.ds i (l.n-1),sl:=l.sl.set (l.ds.getD i 0) zs}
def afu:Nat->cU:=λid=>if id=8 then[([0,1],[],some 2),([],[1],some 3),([],[],some 4),([],[],none)]else[]
theorem ahk(l:Lf)(R:l.R)(m:ba)(hm:rW m)(i:Nat)(pl:l.Pl m i):
 bo 313 [l.av,.agg (tF m)] (if i<l.n/\(l.e i).m=m then .dN [(l.del i).av,.agg (l.e i).cells,bQ true]else .dN [l.av,.agg zs.cells,bQ false]):=by
 refine bo.ac 2 afu func313 λh nx=>?_;have hl:=R.sl;have hi:=pl.le;have hn:=R.n;have f0:=JR hl;have fa:=jU hl;have fl:=dW hl;have d0:¬(nx=nx+1):=ah;have d1:¬(nx=nx+1+1):=ah;have d2:¬(nx=nx+1+1+1):=ah;have d3:¬(nx+1=nx+1+1):=ah;have d4:¬(nx+1=nx+1+1+1):=ah;have d5:¬(nx+1+1=nx+1+1+1):=ah;have d6:¬(nx+1+1+1=nx+1+1):=ah;have d7:¬(nx+1+1+1=nx):=ah;have d8:¬(nx+1+1=nx):=ah;simp+decide-dsimp only[f313,go_sem,kW,fa,d0,d1,d2,d3,d4];refine aZ (Qq l R m hm i pl) ?_;by_cases hf:i<l.n/\(l.e i).m=m
 .rw[aw hf];obtain⟨n',C0⟩:∃n',l.n=n'+1:=⟨l.n-1,ah⟩;have hd:=R.p.mo i;have fs:=Dv hl hd;have he:l.sl.getD (l.ds.getD i 0) zs=l.e i:=rfl;rw[he]at fs;have fw:dJ 0 l.cells [u64 (pw n' (mv l.ds i n'):Nat)]=some ({l with n:=n',ds:=mv l.ds i n'}:Lf).cells:=Bq hl;have fd:({l with n:=n',ds:=mv l.ds i n',sl:=l.sl.set (l.ds.getD i 0) zs}:Lf)=l.del i:=by unfold Lf.del;rw[C0];rfl
  have fp:dJ (1+l.ds.getD i 0*7) ({l with n:=n',ds:=mv l.ds i n'}:Lf).cells zs.cells=some (l.del i).cells:=by rw[<-fd];exact yn (l:={l with n:=n',ds:=mv l.ds i n'}) hl hd zs
  have fp':dJ (1+l.ds.getD i 0*7) ({l with n:=n',ds:=mv l.ds i n'}:Lf).cells [u64 0,u8 0,bR [],bR [],bQ false,int 0,u64 0]=some (l.del i).cells:=fp;have oh:(l.del i).sl.length=15:=by show(List.set _ _ _).length=15;rw[eJ];exact hl
  have fa':=jU oh;have fl':=dW oh;have ft:=ji (a:=vG) (b:=l.del i) rfl oh;have f0':iW 0 l.cells=some (u64 (pw (n'+1) l.ds:Nat)):=by rw[<-C0];exact f0
  simp+decide-dsimp only[go_sem,hf,f0',d0,d1,d2];refine aZ (R.p.amL ah ah) ?_;simp+decide-dsimp only[go_sem,afu,hd,fs,fw,fp',fa',fl',gN,ft,d0,d1,d2,d5,d6,d7,d8,reduceAdd];refine .dT ?_ (.lZ (.cQ (uC _)) (.cQ (sP (l.e i))) .cA) rfl;exact jh
 .rw[ak hf];have ft:=ji (a:=vG) (b:=l) rfl hl;simp+decide-dsimp only[go_sem,hf,fa,fl,gN,ft,d0,d1,d2,d5,d6,d7,d8,reduceAdd];refine .dT ?_ (.lZ (.cQ (uC _)) (.cQ (sP zs)) .cA) rfl;exact jh
variable{i j k:Nat}
theorem Aq{l:List Nat}{p:Nat}:(l.eraseIdx p).getD i 0=if i<p then l.getD i 0 else l.getD (i+1) 0:=by simp only[az,List.getElem?_eraseIdx];split<;>rfl
theorem LP{l:List Nat}(ln:l.length=15){f t:Nat}(hf:f<15)(ht:t<15):(mv l f t).getD j 0=if j<t then(l.eraseIdx f).getD j 0 else if j=t then l.getD f 0 else(l.eraseIdx f).getD (j-1) 0:=by
 have le:=iQ (l:=l) (i:=f) ah;have e1:((l.eraseIdx f).take t).length=t:=by rw[ax];omega
 unfold mv;by_cases h1:j<t;.rw[aw h1,az,cj ah,eE,aw h1,az]
 .rw[ak h1,az,dh ah,e1];by_cases h2:j=t;.rw[aw h2,h2,jM];rfl
  .rw[ak h2,show j-t=(j-1-t)+1 from ah,zd,gV,show t+(j-1-t)=j-1 from ah,az]
theorem rV.inj{l:List Nat}(p:rV l)(hi:i<15)(hj:j<15)(h:l.getD i 0=l.getD j 0):i=j:=by have nd:l.Nodup:=p.nodup_iff.2 List.nodup_range;have ln:=p.len;rw[az,az,aF ah,aF ah]at h;exact(List.getElem_inj nd).1 h
theorem KM{l:List Sl}{s:Sl}(hk:k<l.length):(l.set k s).getD j zs=if j=k then s else l.getD j zs:=by
 simp only[az,xq];by_cases h:k=j;.subst h;rw[aw rfl,aw hk,aw rfl];rfl
 .rw[ak h,ak (λe=>h e.symm)]
section
variable{l:Lf}(R:l.R)
include R
theorem Dx(hi:i<15)(s:Sl)(hj:j<15):(l.upd i s).e j=if j=i then s else l.e j:=by
 show(l.sl.set (l.ds.getD i 0) s).getD (l.ds.getD j 0) zs=_;rw[KM (by rw[R.sl];exact R.p.mo i)];by_cases h:j=i;.rw[aw h,aw (by rw[h])]
 .rw[ak h,ak (λe=>h (R.p.inj hj hi e))];rfl
theorem Bm(hi:i<=l.n)(hn:l.n<15)(s:Sl)(hj:j<15):(l.ins i s).e j=if j<i then l.e j else if j=i then s else if j<=l.n then l.e (j-1)else l.e j:=by
 show(l.sl.set (l.ds.getD l.n 0) s).getD ((mv l.ds l.n i).getD j 0) zs=_;rw[KM (by rw[R.sl];exact R.p.mo _),LP R.p.len hn ah];by_cases h1:j<i;.rw[aw h1,aw h1,Aq,aw (show j<l.n from ah),ak (λe=>by have:=R.p.inj hj hn e;omega)];rfl
 .rw[ak h1,ak h1];by_cases h2:j=i;.rw[aw h2,aw h2,aw rfl]
  .rw[ak h2,ak h2,Aq];by_cases h3:j<=l.n;.rw[aw (show j-1<l.n from ah),aw h3,ak (λe=>by have:=R.p.inj ah hn e;omega)];rfl
   .rw[ak (show¬j-1<l.n from ah),ak h3,show j-1+1=j from ah,ak (λe=>by have:=R.p.inj hj hn e;omega)];rfl
theorem Hc(hi:i<l.n)(hj:j<15):(l.del i).e j=if j<i then l.e j else if j<l.n-1 then l.e (j+1)else if j=l.n-1 then zs else l.e j:=by
 have hn:=R.n;show(l.sl.set (l.ds.getD i 0) zs).getD ((mv l.ds i (l.n-1)).getD j 0) zs=_;rw[KM (by rw[R.sl];exact R.p.mo _),LP R.p.len ah ah];by_cases h1:j<l.n-1
 .rw[aw h1,Aq];by_cases h2:j<i;.rw[aw h2,aw h2,ak (λe=>by have:=R.p.inj hj ah e;omega)];rfl
  .rw[ak h2,ak h2,aw h1,ak (λe=>by have:=R.p.inj ah ah e;omega)];rfl
 .rw[ak h1,ak h1,ak (show¬j<i from ah)];by_cases h2:j=l.n-1;.rw[aw h2,aw h2,aw rfl]
  .rw[ak h2,ak h2,Aq,ak (show¬j-1<i from ah),show j-1+1=j from ah,ak (λe=>by have:=R.p.inj hj ah e;omega)];rfl
theorem Lf.R.lt:∀{i j:Nat},i<j->j<l.n->(l.e i).m<(l.e j).m:=by
 intro i j CT hj
 induction j with
 |zero=>omega
 |succ j ih=>
  have h1:=R.jr j hj;rcases bg i j with h|h
  .exact dZ (ih h ah) h1
  .have:i=j:=ah;subst this;exact h1
theorem Lf.R.pl(m:ba):∃i,l.Pl m i:=by
 have:∀d i,i+d=l.n->(∀j,j<i->(l.e j).m<m)->∃i,l.Pl m i:=by
  intro d
  induction d with
  |zero=>intro i h q;exact⟨i,ah,q,λh'=>absurd h' ah⟩
  |succ d ih=>
   intro i h q;by_cases db:(l.e i).m<m
   .refine ih (i+1) ah λj hj=>?_;rcases bg j i with h|h
    .exact q j h
    .have:j=i:=ah;subst this;exact db
   .exact⟨i,ah,q,λ_=>db⟩
 exact this l.n 0 ah λj hj=>absurd hj (bW _)
theorem Lf.R.upd{i:Nat}(hi:i<l.n){s:Sl}(hs:s.R)(hm:s.m=(l.e i).m):(l.upd i s).R:=by
 have hn:=R.n;have em:∀j,j<l.n->((l.upd i s).e j).m=(l.e j).m:=λj hj=>by
  rw[Dx R ah s ah];split;.rename_i e;rw[e,hm]
  .rfl
 refine⟨R.p,hn,by show(List.set _ _ _).length=15;rw[eJ];exact R.sl,λj h1 h2=>?_,λj hj=>?_,λj hj=>?_,λj hj hb=>?_,R.hi,R.nb⟩;.have h1:l.n<=j:=h1;rw[Dx R ah s h2,ak ah];exact R.z j h1 h2
 .have hj:j<l.n:=hj;rw[Dx R ah s ah];split;.exact hs
  .exact R.r j hj
 .have hj:j+1<l.n:=hj;rw[em j ah,em (j+1) hj];exact R.jr j hj
 .have hj:j<l.n:=hj;rw[em j hj];exact R.wk j hj hb
end
section
variable{l:Lf}(R:l.R)
include R
theorem Lf.R.ins{i:Nat}{s:Sl}(pl:l.Pl s.m i)(hn:l.n<15)(hs:s.R)(hc:l.dI s.m=true)(cx:¬(i<l.n/\(l.e i).m=s.m)):(l.ins i s).R:=by
 have hi:=pl.le;have gt:i<l.n->s.m<(l.e i).m:=λh=>by
  rcases jD s.m (l.e i).m with q|q|q;.exact q
  .exact absurd ⟨h,q.symm⟩ cx
  .exact absurd q (pl.ge h)
 have e1:∀j,j<i->(l.ins i s).e j=l.e j:=λj h=>by rw[Bm R hi hn s ah,aw h]
 have e2:(l.ins i s).e i=s:=by rw[Bm R hi hn s ah,ak (eG i),aw rfl]
 have e3:∀j,i<j->j<=l.n->(l.ins i s).e j=l.e (j-1):=λj h h'=>by rw[Bm R hi hn s ah,ak ah,ak ah,aw h']
 have e4:∀j,l.n<j->j<15->(l.ins i s).e j=l.e j:=λj h h'=>by rw[Bm R hi hn s h',ak ah,ak ah,ak ah]
 refine⟨R.p.Bn hn,by show l.n+1<=15;omega,by show(List.set _ _ _).length=15;rw[eJ];exact R.sl,λj h1 h2=>?_,λj hj=>?_,λj hj=>?_,λj hj hb=>?_,R.hi,R.nb⟩;.have h1:l.n+1<=j:=h1;rw[e4 j h1 h2];exact R.z j ah h2
 .have hj:j<l.n+1:=hj;rcases cI j i with h|h|h
  .rw[e1 j h];exact R.r j ah
  .rw[h,e2];exact hs
  .rw[e3 j h ah];exact R.r _ ah
 .have hj:j+1<l.n+1:=hj;rcases cI j i with h|h|h
  .rw[e1 j h];by_cases h':j+1=i;.rw[h',e2];exact pl.lt j h
   .rw[e1 (j+1) ah];exact R.jr j ah
  .rw[h,e2,e3 (i+1) ah ah,fv];exact gt ah
  .rw[e3 j h ah,e3 (j+1) ah ah,fv];have:=R.jr (j-1) ah;rw[show j-1+1=j from ah]at this;exact this
 .have hj:j<l.n+1:=hj;have gC:l.bd=true:=hb;rcases cI j i with h|h|h
  .rw[e1 j h];exact R.wk j ah gC
  .rw[h,e2];show s.m<l.cR;unfold Lf.dI at hc;rw[gC]at hc;simpa using hc
  .rw[e3 j h ah];exact R.wk _ ah gC
theorem Lf.R.del{i:Nat}(hi:i<l.n):(l.del i).R:=by
 have hn:=R.n;have e1:∀j,j<i->(l.del i).e j=l.e j:=λj h=>by rw[Hc R hi ah,aw h]
 have e2:∀j,i<=j->j<l.n-1->(l.del i).e j=l.e (j+1):=λj h h'=>by rw[Hc R hi ah,ak ah,aw h']
 refine⟨R.p.Bn ah,by show l.n-1<=15;omega,by show(List.set _ _ _).length=15;rw[eJ];exact R.sl,λj h1 h2=>?_,λj hj=>?_,λj hj=>?_,λj hj hb=>?_,R.hi,R.nb⟩
 .have h1:l.n-1<=j:=h1;rw[Hc R hi h2,ak ah,ak ah];split;.rfl
  .exact R.z j ah h2
 .have hj:j<l.n-1:=hj;rcases bg j i with h|h
  .rw[e1 j h];exact R.r j ah
  .rw[e2 j h hj];exact R.r _ ah
 .have hj:j+1<l.n-1:=hj;rcases bg j i with h|h
  .rw[e1 j h];rcases bg (j+1) i with h'|h'
   .rw[e1 _ h'];exact R.jr j ah
   .rw[e2 _ h' hj];exact R.lt ah ah
  .rw[e2 j h ah,e2 (j+1) ah hj];exact R.jr _ ah
 .have hj:j<l.n-1:=hj;have gC:l.bd=true:=hb;rcases bg j i with h|h
  .rw[e1 j h];exact R.wk j ah gC
  .rw[e2 j h hj];exact R.wk _ ah gC
end
variable{P:Program}{h:aG}{t:TypeId}{x y:Operand}
def Sr:Nat->cU:=λid=>if id=4 then[([0],[],some 1),([],[0],some 2),([],[],some 3),([],[],none)]else if id=5 then[(z6,[],some 7),([8],[3,5],some 9),([10],[5],some 11),([],[],none)]else if id=12 then[([0,1,8],[0,1],some 2),([3],[0,8],some 4),([5,6,7],[8],some 9),([],[],some 10),([],[],none)]else if id=15 then[([0,1,2],[],some 3),([4],[1],some 5),([6],[1],some 7),([],[],none)]else if id=16 then[([0,1,2],[],some 3),([],[1,2],some 4),([],[2],some 5),([],[],none)]else[]
theorem Qu{a:Nat}(ha:a<65536):cZ P h .quo t x y (int a) (int 2)=some (int (a / 2:Nat)):=by
 have hr:br P (binOp .quo t (.int .i64 a) (.int .i64 2))=some (.int .i64 (a / 2:Nat)):=by show some (Value.int .i64 (IntKind.wrap .i64 ((a:Int).tdiv 2)))=_;rw[show(a:Int).tdiv 2=((a / 2:Nat):Int)from rfl,<-gT,wrap_i64 ah ah]
 have hg:br P (do eqGuard .quo t x y (.int .i64 a) (.int .i64 2);binOp .quo t (.int .i64 a) (.int .i64 2))=some (.int .i64 (a / 2:Nat)):=by unfold eqGuard;simp only[bX];exact hr
 have hs:iG P h .quo t x y (.g (.int .i64 a)) (.g (.int .i64 2))=some (.g (.int .i64 (a / 2:Nat))):=by show ke P .quo t x y (.int .i64 a) (.int .i64 2)=_;unfold ke;rw[hg]
 unfold cZ;simp only[eD];exact hs
attribute[go_sem] Qu
structure IW(l:Lf)(x:Hd)(L Rr:Lf):Prop where
 lr:L.R
 rr:Rr.R
 ln:L.n=l.n / 2
 rn:Rr.n=l.n-l.n / 2
 le:∀j,j<l.n / 2->L.e j=l.e j
 re:∀j,j<l.n-l.n / 2->Rr.e j=l.e (l.n / 2+j)
 lh:L.cR=(l.e (l.n / 2)).m/\L.bd=true/\L.next=x
 rh:Rr.cR=l.cR/\Rr.bd=l.bd/\Rr.next=l.next
theorem amO(l:Lf)(R:l.R)(h2:2<=l.n)(x:Hd)(h:aG)(nx:Nat):
 aA prog 358 [l.av,x.av] h nx λv h' nx'=>(∃L Rr:Lf,v= .dN [L.av,Rr.av,.agg (tF (l.e (l.n / 2)).m)]/\IW l x L Rr)/\h'=h/\nx'=nx:=by
 refine aA.pc 2 Sr func358 ?_;have hl:=R.sl;have hn:=R.n;have f0:=JR hl;have fa:=jU hl;have fl:=dW hl;have ft:=ji (a:=vG) (b:=l) rfl hl;have c2:¬((l.n:Int)<2):=ah;have Hk:¬(nx=nx+1):=ah;have LY:¬(nx=nx+1+1):=ah;have Zm:¬(nx=nx+1+1+1):=ah;have e04:¬(nx=nx+1+1+1+1):=ah;have UO:¬(nx+1=nx+1+1):=ah;have e13:¬(nx+1=nx+1+1+1):=ah;have e14:¬(nx+1=nx+1+1+1+1):=ah;have e23:¬(nx+1+1=nx+1+1+1):=ah;have e24:¬(nx+1+1=nx+1+1+1+1):=ah;have e32:¬(nx+1+1+1=nx+1+1):=ah;have e34:¬(nx+1+1+1=nx+1+1+1+1):=ah;have e43:¬(nx+1+1+1+1=nx+1+1+1):=ah;have e42:¬(nx+1+1+1+1=nx+1+1):=ah;simp+decide-dsimp only[f358,go_sem,Hd.av,Hd.cells,kW,fa,Hk,LY,Zm,e04];refine aZ (KF l R.p hn hl) ?_;simp+decide-dsimp only[go_sem,c2,fa,Hk,LY,Zm,e04];refine aZ (YH l R) ?_;simp+decide-dsimp only[go_sem,Sr,fa,Hk,LY,Zm,e04];refine aZ ahU ?_;have f1:=Mp hl;have f2:=Fg hl;have f3:=FQ hl;have fn:=ji (a:=vG) (b:=iN) rfl rfl;have fnl:=dW (l:=iN) rfl;have p1:dJ 106 iN.cells (tF l.cR)=some ({iN with cR:=l.cR}:Lf).cells:=zf (l:=iN) rfl l.cR;have p2:dJ 108 ({iN with cR:=l.cR}:Lf).cells [bQ l.bd]=some ({iN with cR:=l.cR,bd:=l.bd}:Lf).cells:=Dt (l:={iN with cR:=l.cR}) rfl l.bd;have p3:dJ 109 ({iN with cR:=l.cR,bd:=l.bd}:Lf).cells [int l.next.ao,u64 l.next.bk]=some ({iN with cR:=l.cR,bd:=l.bd,next:=l.next}:Lf).cells:=zx (l:={iN with cR:=l.cR,bd:=l.bd}) rfl l.next;generalize hR1:({iN with cR:=l.cR}:Lf)=N1 at p1 p2;generalize hR2:({iN with cR:=l.cR,bd:=l.bd}:Lf)=N2 at p2 p3;generalize hR3:({iN with cR:=l.cR,bd:=l.bd,next:=l.next}:Lf)=N3 at p3;have q2:l.n<65536:=ah;simp+decide-dsimp only[go_sem,Sr,f1,f2,f3,fn,fnl,fl,ft,gN,p1,p2,p3,q2,fa,Hk,LY,Zm,e04,e23,e24,e34,e32,reduceAdd];generalize hq:nx+1+1+1+1+1+Array.size _+Array.size _=nq;have rm:nx+5<=nq:=ah;clear hq;generalize hH:aK _ (nx+1+1+1) (.cells N3.cells 269)=H;have S0:aH nx h H:=by rw[<-hH];exact jh
 have g0:au H nx=some (.cells l.cells 269):=by rw[<-hH];simp[aj,LY,Zm,e04]
 have g1:au H (nx+1)=some (.cells [int x.ao,u64 x.bk] 245):=by rw[<-hH];simp[aj]
 have g2:au H (nx+1+1)=some (.cells l.cells 269):=by rw[<-hH];simp[aj]
 have g3:au H (nx+1+1+1)=some (.cells N3.cells 269):=by rw[<-hH];simp[aj]
 have g4:au H (nx+1+1+1+1)=some (.cells (tF []) 264):=by rw[<-hH];simp[aj];rw[ak ah];rfl
 clear hH;have RN:N3.R/\N3.n=0/\N3.cR=l.cR/\N3.bd=l.bd/\N3.next=l.next:=by rw[<-hR3];exact⟨⟨yh,by show 0<=15;omega,rfl,oJ.z,oJ.r,oJ.jr,(λi h=>absurd h (bW _)),R.hi,R.nb⟩,rfl,rfl,rfl,rfl⟩
 clear p1 p2 p3 hR1 hR2 hR3;refine cL _ _ (λmm s h' nx'=>∃(i:Nat) (RR:Lf),l.n / 2<=i/\i<=l.n/\mm=l.n-i/\RR.R/\RR.n=i-l.n / 2/\(∀j,j<RR.n->RR.e j=l.e (l.n / 2+j))/\(RR.cR=l.cR/\RR.bd=l.bd/\RR.next=l.next)/\
  ao s 2= .ptr nx 0/\ao s 3= .ptr (nx+1) 0/\ao s 4= .ptr (nx+1+1) 0/\ao s 5= .ptr (nx+1+1+1) 0/\ao s 6= .ptr (nx+1+1+1+1) 0/\ao s 7=int l.n/\ao s 8=int i/\
  (aH nx h h'/\au h' nx=some (.cells l.cells 269)/\au h' (nx+1)=some (.cells [int x.ao,u64 x.bk] 245)/\au h' (nx+1+1)=some (.cells l.cells 269)/\au h' (nx+1+1+1)=some (.cells RR.cells 269)/\au h' (nx+1+1+1+1)=some (.cells (tF []) 264))/\nx+5<=nx') (n:=l.n-l.n / 2) ?_ ?_
 .simp+decide-dsimp only[go_sem];exact⟨l.n / 2,N3,an _,Nat.div_le_self _ _,rfl,RN.1,by rw[RN.2.1,jM],(λj hj=>by rw[RN.2.1]at hj;exact absurd hj (bW _)),RN.2.2,rfl,⟨S0,g0,g1,g2,g3,g4⟩,rm⟩
 clear S0 g0 g1 g2 g3 g4 rm RN;rintro mm s h' nx' ⟨i,RR,Eh,Df,rfl,rr,rn,re,rh,s2,s3,s4,s5,s6,s7,s8,⟨S0,g0,g1,g2,g3,g4⟩,rm⟩;have n0:¬(nx=nx'):=ah;have n1:¬(nx+1=nx'):=ah;have n2:¬(nx+1+1=nx'):=ah;have n3:¬(nx+1+1+1=nx'):=ah;have n4:¬(nx+1+1+1+1=nx'):=ah;have n5:¬(nx'=nx+1+1+1):=ah;by_cases db:i<l.n
 .have w1:i+1<9223372036854775808:=ah;simp+decide-dsimp only[go_sem,s2,s7,s8,g0,db,fa];refine aZ (Jp l R i) ?_;have AE:l.at i=l.e i:=aw db;rw[AE];have rl:=rr.sl;have ra:=jU rl;have hr:=R.r i db;simp+decide-dsimp only[go_sem,s5,g3,db,ra,n3,reduceAdd];have nh:RR.dI (l.e i).m=true:=by
   unfold Lf.dI;rw[rh.1,rh.2.1];cases hb:l.bd with
   |false=>rfl
   |true=>rw[aM (R.wk i db hb)];rfl
  have pl:RR.Pl (l.e i).m RR.n:=⟨an _,λj hj=>by rw[re j hj];exact R.lt ah db,λh=>absurd h (eG _)⟩;have c:=Jq RR rr (l.e i) hr nh RR.n pl ah;rw[ak (λh=>eG _ h.1)]at c;refine aZ c ?_;have nr:=rr.ins pl ah hr nh (λh=>eG _ h.1);have ft':=ji (a:=RR) (b:=RR.ins RR.n (l.e i)) rl nr.sl;have fl':=dW nr.sl;simp+decide-dsimp only[go_sem,s2,s3,s4,s5,s6,s7,s8,g0,g1,g2,g3,g4,n0,n1,n2,n3,n4,ft',fl',gN,w1];refine⟨_,(ah:l.n-(i+1)<_),i+1,RR.ins RR.n (l.e i),ah,db,rfl,nr,(by show RR.n+1=_;omega),λj hj=>?_,rh,?_⟩
  .have hj:j<RR.n+1:=hj;rw[Bm rr (an _) ah _ ah];by_cases h:j<RR.n;.rw[aw h];exact re j h
   .rw[ak h,aw ah,show l.n / 2+j=i from ah]
  .exact⟨rfl,⟨by(repeat' first|exact S0|apply aH.fJ|(apply aH.set;rotate_left;omega)),rfl⟩,ah⟩
 .have:i=l.n:=ah;subst this;simp+decide-dsimp only[go_sem,s7,s8,eG];clear n0 n1 n2 n3 n4 n5 db s8;refine cL _ _ (λmm s h' nx'=>∃(LL:Lf) (sp:ba),l.n / 2<=LL.n/\LL.n<=l.n/\mm=LL.n-l.n / 2/\LL.R/\(∀j,j<LL.n->LL.e j=l.e j)/\(LL.n<l.n->sp=(l.e LL.n).m)/\
   ao s 2= .ptr nx 0/\ao s 3= .ptr (nx+1) 0/\ao s 4= .ptr (nx+1+1) 0/\ao s 5= .ptr (nx+1+1+1) 0/\ao s 6= .ptr (nx+1+1+1+1) 0/\ao s 7=int l.n/\
   (aH nx h h'/\au h' (nx+1)=some (.cells [int x.ao,u64 x.bk] 245)/\au h' (nx+1+1)=some (.cells LL.cells 269)/\au h' (nx+1+1+1)=some (.cells RR.cells 269)/\au h' (nx+1+1+1+1)=some (.cells (tF sp) 264))/\nx+5<=nx') (n:=l.n-l.n / 2) ?_ ?_
  .simp+decide-dsimp only[go_sem,s2,s3,s4,s5,s6,s7];exact⟨l,[],ah,an _,rfl,R,λ_ _=>rfl,λh=>absurd h (eG _),⟨S0,g1,g2,g3,g4⟩,rm⟩
  clear S0 g0 g1 g2 g3 g4 rm s2 s3 s4 s5 s6 s7 s;rintro mm s h' nx' ⟨LL,sp,hk1,yB,rfl,lr,le,hsp,s2,s3,s4,s5,s6,s7,⟨S0,g1,g2,g3,g4⟩,rm⟩;have n1:¬(nx+1=nx'+8):=ah;have n2:¬(nx+1+1=nx'+8):=ah;have n3:¬(nx+1+1+1=nx'+8):=ah;have n4:¬(nx+1+1+1+1=nx'+8):=ah;have n5:¬(nx'+8=nx+1+1):=ah;have ll:=lr.sl;have la:=jU ll;simp+decide-dsimp only[go_sem,s4,g2,la];refine aZ (KF LL lr.p lr.n ll) ?_;by_cases db:l.n / 2<LL.n
  .have vT:((l.n / 2:Nat):Int)<(LL.n:Int):=ah;have w1:cF .i64 ((LL.n:Int)-1)=((LL.n-1:Nat):Int):=by rw[show(LL.n:Int)-1=((LL.n-1:Nat):Int)from ah];exact wrap_i64 ah ah
   simp+decide-dsimp only[go_sem,Sr,s4,s7,g2,la,q2,vT,n2];generalize hq:nx'+Array.size _=nq;have an':nx'+9<=nq:=by rw[<-hq];exact eI bN _
   clear hq;refine aZ (KF LL lr.p lr.n ll) ?_;simp+decide-dsimp only[go_sem,s4,g2,la,w1,n2];refine aZ (Jp LL lr (LL.n-1)) ?_;have AE:LL.at (LL.n-1)=LL.e (LL.n-1):=aw ah;rw[AE];simp+decide-dsimp only[go_sem,s4,g2,la,n2,reduceAdd];have hr:=lr.r (LL.n-1) ah;have pl:LL.Pl (LL.e (LL.n-1)).m (LL.n-1):=⟨ah,λj hj=>lr.lt hj ah,λ_=>cw⟩;have c:=ahk LL lr (LL.e (LL.n-1)).m hr.m (LL.n-1) pl;rw[aw ⟨ah,rfl⟩]at c;refine aZ c ?_;have nr:=lr.del (i:=LL.n-1) ah;have ft':=ji (a:=LL) (b:=LL.del (LL.n-1)) ll nr.sl;have fl':=dW nr.sl;simp+decide-dsimp only[go_sem,s2,s3,s4,s5,s6,s7,g1,g2,g3,g4,n1,n2,n3,n4,n5,ft',fl',gN,reduceAdd];refine⟨_,?_,LL.del (LL.n-1),(LL.e (LL.n-1)).m,(by show _<=LL.n-1;omega),(by show LL.n-1<=_;omega),rfl,nr,λj hj=>?_,λhj=>?_,?_⟩;.show LL.n-1-l.n / 2<LL.n-l.n / 2;omega
   .have hj:j<LL.n-1:=hj;rw[Hc lr ah ah,aw hj];exact le j ah
   .show(LL.e (LL.n-1)).m=(l.e (LL.n-1)).m;rw[le _ ah]
   .exact⟨⟨by(repeat' first|exact S0|apply aH.fJ|(apply aH.set;rotate_left;omega)),rfl,rfl⟩,ah⟩
  .have hk:LL.n=l.n / 2:=ah;have vT:¬((l.n / 2:Nat):Int)<(LL.n:Int):=ah;have XB:sp=(l.e (l.n / 2)).m:=by rw[<-hk];exact hsp ah
   have ams:rW sp:=by rw[XB];exact(R.r _ ah).m
   have p1:dJ 106 LL.cells (tF sp)=some ({LL with cR:=sp}:Lf).cells:=zf ll sp;have p2:dJ 108 ({LL with cR:=sp}:Lf).cells [bQ true]=some ({LL with cR:=sp,bd:=true}:Lf).cells:=Dt (l:={LL with cR:=sp}) ll true;have p3:dJ 109 ({LL with cR:=sp,bd:=true}:Lf).cells [int x.ao,u64 x.bk]=some ({LL with cR:=sp,bd:=true,next:=x}:Lf).cells:=zx (l:={LL with cR:=sp,bd:=true}) ll x;generalize N0:({LL with cR:=sp}:Lf)=N1 at p1 p2;generalize hL2:({LL with cR:=sp,bd:=true}:Lf)=N2 at p2 p3;generalize hL3:({LL with cR:=sp,bd:=true,next:=x}:Lf)=N3 at p3;have l3:N3.sl.length=15:=by rw[<-hL3];exact ll
   have la3:=jU l3;have lr3:=jU rr.sl;have ft3:=ji l3 l3;have ftr:=ji rr.sl rr.sl;have fl3:=dW l3;have flr:=dW rr.sl;simp+decide-dsimp only[go_sem,Sr,s3,s4,s5,s6,s7,g1,g2,g3,g4,q2,vT,p1,p2,p3,la3,lr3,ft3,ftr,fl3,flr,gN,e32,e43,e42,e23,e24,e34,reduceAdd];refine⟨?_,_,.dN (.cons (.cQ (uC _)) (.cons (.cQ (uC _)) (.cons (.cQ ⟨trivial,trivial,trivial⟩) .nil))),N3,RR,by rw[XB],?_⟩
   .show aH nx h _
    repeat' first|exact S0|apply aH.fJ|(apply aH.set;rotate_left;omega)
   .have hx:N3.ds=LL.ds/\N3.n=LL.n/\N3.sl=LL.sl/\N3.cR=sp/\N3.bd=true/\N3.next=x:=by rw[<-hL3];exact⟨rfl,rfl,rfl,rfl,rfl,rfl⟩
    obtain⟨x1,x2,x3,x4,x5,x6⟩:=hx;have ee:∀j,N3.e j=LL.e j:=λj=>by unfold Lf.e;rw[x1,x3]
    refine⟨⟨by rw[x1];exact lr.p,by rw[x2];exact lr.n,l3,λj h1 h2=>?_,λj hj=>?_,λj hj=>?_,λj hj hb=>?_,by rw[x4];exact ams,λh=>by rw[x5]at h;cases h⟩,rr,x2.trans hk,by rw[rn],λj hj=>?_,λj hj=>?_,⟨x4.trans XB,x5,x6⟩,rh⟩;.rw[ee];exact lr.z j (by rw[<-x2];exact h1) h2
    .rw[ee];exact lr.r j (by rw[<-x2];exact hj)
    .rw[ee,ee];exact lr.jr j (by rw[<-x2];exact hj)
    .rw[x2]at hj;rw[ee,x4,XB,le j hj];exact R.lt ah ah
    .rw[ee];exact le j ah
    .exact re j ah
structure Mn where
 cQ:Bool
 aE:Lf
 aN:Nd
def Mn.cells(n:Mn):List AV:=bQ n.cQ::(n.aE.cells++n.aN.cells)
abbrev Mn.av(n:Mn):AV:= .agg n.cells
theorem afg{h a k ok}:my prog h 308 a k ok=DU (.pointer none) (mapOf h a) k ok:=EX QO Da aaZ
theorem ahr{h b k v}:qA prog h 308 (.mp b) k v=Oj h b (au h b) k v:=Jv QO Da
attribute[go_sem] afg ahr
theorem oD{x:Mn}(hx:x.aE.sl.length=15):x.cells.length=120:=by unfold Mn.cells;rw[bD,aq,dW hx];rfl
theorem Bp{x:Mn}(hx:x.aE.sl.length=15):de 120 x.cells=some x.cells:=by rw[bO _ _ (by rw[oD hx];omega),aD (by rw[oD hx];omega)]
def W4:List Value:= .int .u64 0:: .bool false::(Wh++[.bool false,.slice none 0 0,.slice none 0 0,.slice none 0 0,.string ⟨#[]⟩,.bool false,.int .i64 0,.int .u64 0])
theorem ajj:dy prog 334=some W4:=aL
def t334:List AV:=(W4.map AV.g).drop 1
theorem agT{g:Int}:dJ 0 (W4.map AV.g) [u64 g]=some (u64 g::t334):=by rw[cp _ _ _ (by simp[W4])];rfl
theorem ai0{x:Mn}(hx:x.aE.sl.length=15):dJ 0 t334 x.cells=some x.cells:=by have l:t334.length=120:=rfl;rw[cp _ _ _ (by rw[oD hx,l];omega),dv,ch,fx,aT (by rw[oD hx,l];omega),cD]
attribute[go_sem] ajj
abbrev MAr.ok(a:Ar Mn)(h:aG)(nx:Nat):Prop:=Ar.ok Mn.cells 310 334 a h nx
def aeW:Nat->cU:=λid=>if id=3 then[(z9,[],some 10),([],[],some 11),([],[],none)]else if id=4 then[(z10,[],some 11),([],[],some 12),([],[],none)]else[]
theorem amS(a:Ar Mn)(h:aG)(nx:Nat)(ok:MAr.ok a h nx)(e:jE Mn)(he:e∈a.es):aA prog 330 [.ptr a.ab 0,(Hd.mk e.ao e.bk).av] h nx (dr (.dN [.ptr e.bJ 0,bQ true]) h nx):=by obtain⟨j,hj⟩:=AK ok.rK he;have hf:=ok.fr e he;have UG:=ok.la;have MQ:=ok.lm;refine aA.pc 2 aeW func330 ?_;have d1:¬(a.ab=nx):=ah;have d2:¬(a.mb=nx):=ah;have d3:¬(e.bJ=nx):=ah;simp+decide-dsimp only[f330,go_sem,aeW,Hd.av,Hd.cells,ok.ar,ok.mp,ok.cl e he,d1,d2,d3,hj];exact .of (aH.refl.set (an _)) (.cQ ⟨hf.2.2,trivial,trivial⟩)
theorem ak6(a:Ar Mn)(h:aG)(nx:Nat)(ok:MAr.ok a h nx)(e:jE Mn)(he:e∈a.es):aA prog 312 [.ptr a.ab 0,(Hd.mk e.ao e.bk).av] h nx (dr (.dN [.ptr e.bJ 1,bQ true]) h nx):=by
 have hf:=ok.fr e he;refine aA.pc 2 T0 func312 ?_;have J':MAr.ok a (aK h nx (.cells (Hd.mk e.ao e.bk).cells 245)) (nx+1):=by
  have UG:=ok.la;have MQ:=ok.lm;refine⟨by rw[aj,ak ah];exact ok.ar,by rw[aj,ak ah];exact ok.mp,λf mj=>?_,ok.rK,ok.IL,λf mj=>?_,ok.ne,ah,ah⟩;.have:=ok.fr f mj;rw[aj,ak ah];exact ok.cl f mj
  .have:=ok.fr f mj;exact⟨this.1,this.2.1,ah⟩
 have c:=amS a _ _ J' e he;rw[Hd.av,Hd.cells]at c;simp+decide-dsimp only[f312,go_sem,Hd.av,Hd.cells];refine cf c λ_ h' nx' _ ⟨e1,e2,e3⟩=>?_;subst e1;subst e2;subst e3;simp+decide-dsimp only[go_sem];exact .of (aH.refl.set (an _)) (.cQ ⟨hf.2.2,trivial,trivial⟩)
theorem amj(h:aG)(nx pb:Nat):aA prog 133 [.ptr pb 0] h nx λv h' nx'=>∃ab mb,nx<=ab/\nx<=mb/\¬(ab=mb)/\ab<nx'/\mb<nx'/\v= .ptr ab 0/\au h' ab=some (.cells [.ptr pb 0,.mp mb] 310)/\au h' mb=some (.map [] 0)/\aH nx h h':=by refine aA.ac 1 T0 func133 ?_;simp+decide-dsimp only[f133,go_sem];exact⟨nx+1,nx,ah,ah,ah,ah,ah,rfl,by rw[aw rfl],by rw[ak ah,aw rfl],(aH.refl.set (an _)).set (bz _)⟩
def afv:Nat->cU:=λid=>if id=6 then[(z10,[3,5,7,8],some 11),([],[],none)]else[]
theorem akQ(a:Ar Mn)(p:bj)(h:aG)(nx:Nat)(ok:MAr.ok a h nx)(sg:p.ok h nx)(sp:Sep a p)(hc:p.fr.count true≠0)(x:Mn)(hx:x.aE.sl.length=15):
 aA prog 147 [.ptr a.ab 0,.agg (Mn.cells x)] h nx λv h' nx'=>∃i bJ,i<p.fr.length/\p.fr.getD i false=true/\v= .dN [(Hd.mk i (p.gs.getD i 0)).av,int 0]/\
  ({p with fr:=p.fr.set i false}:bj).ok h' nx'/\MAr.ok {a with ck:=a.ck+1,es:=a.es++[⟨i,bJ,a.ck,p.gs.getD i 0,x⟩]} h' nx'/\nx<=bJ/\QT nx a p h h':=by
 have l1:=sg.rY;have l2:=sg.ss;have l3:=sg.sr;have UG:=ok.la;have MQ:=ok.lm;have s1:=sp.sa;have s2:=sp.sm;refine aA.ac 2 afv func147 ?_;have d1:¬(a.ab=nx):=ah;have d2:¬(a.ab=nx+1):=ah;simp+decide-dsimp only[f147,go_sem,ok.ar,sp.pb,d1,d2];refine cf (ac6 p _ _ (sg.aX (aH.set (aH.set .refl (an _)) (bz _)) ah) hc) λ_ h1 cm l4 ⟨i,hi,ht,e,q1,q2⟩=>?_;subst e;have k1:au h1 a.ab=some (.cells [.ptr p.pb 0,.mp a.mb] 310):=by rw[q2 _ ah s1.1 s1.2.1 s1.2.2,aj,ak d2,aj,ak d1,ok.ar,sp.pb]
 have k2:au h1 a.mb=some (.map (a.es.map jE.row) a.ck):=by rw[q2 _ ah s2.1 s2.2.1 s2.2.2,aj,ak ah,aj,ak ah,ok.mp]
 have k3:au h1 nx=some (.cells (Mn.cells x) 271):=by rw[q2 _ ah ah ah ah,aj,ak ah,aj,aw rfl]
 have k4:au h1 (nx+1)=some (.cells [int 0,u64 0] 245):=by rw[q2 _ ah ah ah ah,aj,aw rfl]
 have d3:¬(a.ab=cm):=ah;have d4:¬(a.mb=cm):=ah;have d5:¬(nx=cm):=ah;have d6:¬(nx+1=cm):=ah;have d7:¬(a.ab=cm+1+10):=ah;have d8:¬(a.mb=cm+1+10):=ah;have d9:¬(nx=cm+1+10):=ah;have d10:¬(nx+1=cm+1+10):=ah;have d11:¬(cm=a.mb):=ah;have d12:¬(nx+1=a.mb):=ah;have hm:=vf (k:=i) a.es 0 λe he hs=>by have:=(sp.taken e he).2;rw[hs,ht]at this;cases this
 simp+decide-dsimp only[go_sem,afv,Hd.av,Hd.cells,k1,k2,k3,k4,d3,d4,d5,d6,d7,d8,d9,d10,d11,d12,hm,Bp hx,oD hx,agT,ai0 hx,reduceAdd];refine⟨i,cm+1+10,hi,ht,rfl,?_,?_,ah,?_⟩
 .refine q1.iy ?_ ?_ ?_ (by show cm<=cm+1+12;omega);.show au _ p.pb=au _ p.pb;have:=s2.1;rw[aj,ak ah,aj,ak (λe=>this e.symm),aj,ak ah,aj,ak ah,aj,ak ah]
  .show au _ p.gb=au _ p.gb;have:=s2.2.1;rw[aj,ak ah,aj,ak (λe=>this e.symm),aj,ak ah,aj,ak ah,aj,ak ah]
  .show au _ p.fb=au _ p.fb;have:=s2.2.2;rw[aj,ak ah,aj,ak (λe=>this e.symm),aj,ak ah,aj,ak ah,aj,ak ah]
 .have cx:=ok.ne;refine⟨?_,?_,λe he=>?_,?_,?_,λe he=>?_,ok.ne,?_,?_⟩;.show au _ a.ab=_;rw[aj,ak ah,aj,ak cx,aj,ak ah,aj,ak ah,aj,ak ah,k1]
  .show au _ a.mb=_;rw[aj,ak ah,aj,aw rfl,dB];rfl
  .rcases bp.1 he with he|he;.have:=ok.fr e he;have g:=sp.sc e he;rw[aj,ak ah,aj,ak this.2.1,aj,ak ah,aj,ak ah,aj,ak ah,q2 _ ah g.1 g.2.1 g.2.2,aj,ak ah,aj,ak ah];exact ok.cl e he
   .simp only[aR]at he;subst he;show au _ (cm+1+10)=_;rw[aj,ak ah,aj,ak ah,aj,aw rfl]
  .show((a.es++[_]).map jE.ao).Nodup;rw[dB,nm];refine⟨ok.rK,bL,λy hy z hz=>?_⟩;obtain⟨e,he,rfl⟩:=bu.1 hy;simp only[dQ,oQ,aR]at hz;intro hs;have:=(sp.taken e he).2;rw[hs,hz,ht]at this;cases this
  .show((a.es++[_]).map jE.bJ).Nodup;rw[dB,nm];refine⟨ok.IL,bL,λy hy z hz=>?_⟩;obtain⟨e,he,rfl⟩:=bu.1 hy;simp only[dQ,oQ,aR]at hz;have:=ok.fr e he;omega
  .show e.bJ≠a.ab/\e.bJ≠a.mb/\e.bJ<cm+1+12;rcases bp.1 he with he|he
   .have:=ok.fr e he;exact⟨this.1,this.2.1,ah⟩
   .simp only[aR]at he;subst he;show cm+1+10≠a.ab/\cm+1+10≠a.mb/\cm+1+10<cm+1+12;omega
  .show a.ab<cm+1+12;omega
  .show a.mb<cm+1+12;omega
 .intro b hb g1 g2 g3 g4;rw[aj,ak ah,aj,ak g4,aj,ak ah,aj,ak ah,aj,ak ah,q2 b ah g1 g2 g3,aj,ak ah,aj,ak ah]
variable{B:List AV}
structure wF(C:List AV)(off:Nat)(n:Mn):Prop where
 cQ:iW off C=some (bQ n.cQ)
 aE:(ed (off+1) C).bind (de 111)=some n.aE.cells
 aN:(ed (off+112) C).bind (de 8)=some n.aN.cells
 anM:(ed (off+1+109) C).bind (de 2)=some [int n.aE.next.ao,u64 n.aE.next.bk]
 anL:(ed (off+112+6) C).bind (de 2)=some [int n.aN.next.ao,u64 n.aN.next.bk]
 aJ:iW (off+112+1) C=some (strs n.aN.aJ)
 all:(ed off C).bind (de 120)=some n.cells
theorem RS{pre:List AV}:(pre++B).drop (pre.length+k)=B.drop k:=by rw[iz,aT ah,ch,fR]
theorem wF.mk'{pre:List AV}{n:Mn}(hx:n.aE.sl.length=15):wF (pre++n.cells) pre.length n:=by
 have ln:=oD hx;have ll:=dW hx;have bP:(pre++n.cells).length=pre.length+120:=by rw[aq,ln]
 have d:∀k,k<=120->ed (pre.length+k) (pre++n.cells)=some (n.cells.drop k):=λk hk=>by rw[eF _ _ ah,RS]
 have nth:∀k,iW (pre.length+k) (pre++n.cells)=n.cells[k]?:=λk=>by rw[kr,dh ah,fR]
 have c1:n.cells.drop 1=n.aE.cells++n.aN.cells:=rfl;have aeH:n.cells.drop 112=n.aN.cells:=by show(n.aE.cells++n.aN.cells).drop 111=_;rw[<-ll,List.drop_left]
 refine⟨by have:=nth 0;rw[dD]at this;rw[this];rfl,?_,?_,?_,?_,?_,?_⟩;.rw[d 1 ah,c1,aS,bO _ _ (by rw[aq,ll];omega),aB ah,aD ah]
 .rw[d 112 ah,aeH];rfl
 .have:=FQ hx;rw[eF _ _ ah]at this;rw[jk,d (1+109) ah,<-lU,c1,cg ah,aS];have l2:(n.aE.cells.drop 109).length=2:=by rw[aC,ll]
  rw[aS,bO _ _ ah]at this;rw[bO _ _ (by rw[aq,l2];omega),aB ah];exact this
 .rw[jk,d (112+6) ah,<-lU,aeH];rfl
 .rw[jk,nth,<-List.head?_drop,<-lU,aeH];rfl
 .have:=d 0 ah;rw[dD]at this;rw[this,j9,aS,Bp hx]
def Mn.dI(n:Mn)(m:ba):Bool:=if n.cQ then n.aE.dI m else n.aN.dI (pP m)
def Mn.next(n:Mn):Hd:=if n.cQ then n.aE.next else n.aN.next
def Mn.full(n:Mn):Bool:=if n.cQ then decide (6<n.aE.n)else decide (4<n.aN.aJ.length)
def Mn.tight(n:Mn):Bool:=if n.cQ then decide (6<=n.aE.n)else decide (4<=n.aN.aJ.length)
def Ry:Nat->cU:=λid=>if id=2 then[(z4,[],some 5),([],[],some 6),([],[],none)]else if id=3 then[(z4,[],some 5),([],[3],some 6),([],[],some 7),([],[],none)]else[]
section
variable{n:Mn}{C:List AV}{b off:Nat}{T:TypeId}{h:aG}{nx:Nat}(hC:au h b=some (.cells C T))(hb:b<nx)(F:wF C off n)
include hC hb F
theorem amF(hl:n.aE.sl.length=15)(hh:n.cQ=true->rW n.aE.cR)(m:ba)(hm:rW m):aA prog 334 [.ptr b off,.agg (tF m)] h nx (dr (bQ (n.dI m)) h nx):=by
 refine aA.pc 2 Ry func334 ?_;have d0:¬(b=nx):=ah;have f1:=F.cQ;have f2:=F.aE;have f3:=F.aN;unfold Mn.dI;cases tE:n.cQ with
 |true=>rw[tE]at f1;simp+decide-dsimp only[f334,go_sem,Ry,hC,d0,f1,f2];refine aZ (XD n.aE hl (hh tE) m hm) ?_;simp+decide-dsimp only[go_sem];exact .dT (aH.refl.set (an _)) .cA rfl
 |false=>rw[tE]at f1;simp+decide-dsimp only[f334,go_sem,Ry,hC,d0,f1,f3];refine aZ (YD m hm.len) ?_;simp+decide-dsimp only[go_sem,hC,d0,f3];refine aZ (NM n.aN (pP m)) ?_;simp+decide-dsimp only[go_sem];exact .dT (aH.refl.set (an _)) .cA rfl
theorem am5(p:n.cQ=true->n.aE.R)(hl:n.aE.sl.length=15):aA prog 346 [.ptr b off] h nx (dr (bQ n.tight) h nx):=by
 refine aA.pc 1 T0 func346 ?_;have f1:=F.cQ;have f2:=F.aE;have f3:=F.aJ;unfold Mn.tight;cases tE:n.cQ with
 |true=>rw[tE]at f1 p;simp+decide-dsimp only[Tryz.f346,go_sem,hC,f1,f2];refine aZ (KF n.aE (p rfl).p (p rfl).n hl) ?_;simp+decide-dsimp only[go_sem];exact .dT .refl .cA (fN (λb=>AV.g (.bool b)) (eW.2 ah))
 |false=>rw[tE]at f1;simp+decide-dsimp only[Tryz.f346,go_sem,hC,f1,f3];exact .dT .refl .cA (fN (λb=>AV.g (.bool b)) (eW.2 ah))
theorem akq(p:n.cQ=true->n.aE.R)(hl:n.aE.sl.length=15):aA prog 347 [.ptr b off] h nx (dr (bQ n.full) h nx):=by
 refine aA.pc 1 T0 func347 ?_;have f1:=F.cQ;have f2:=F.aE;have f3:=F.aN;unfold Mn.full;cases tE:n.cQ with
 |true=>rw[tE]at f1 p;simp+decide-dsimp only[f347,go_sem,hC,f1,f2];refine aZ (akY n.aE (p rfl).p (p rfl).n hl) ?_;simp+decide-dsimp only[go_sem];exact .dT .refl .cA rfl
 |false=>rw[tE]at f1;simp+decide-dsimp only[f347,go_sem,hC,f1,f3];refine aZ (afP n.aN) ?_;simp+decide-dsimp only[go_sem];exact .dT .refl .cA rfl
end
theorem adr(s:ba)(i:Nat)(hs:s.length<60000)(hi:i<6000):bo 311 [bR s,int i] (bR (s.drop (8*(i+1)))):=by
 refine bo.ac 2 T0 func311 λh nx=>?_;have w1:i+1<9223372036854775808:=ah;have w2:i+1<65536:=ah;have hm:(if 8*(i+1)<s.length then((8*(i+1):Nat):Int)else(s.length:Int))=((min s.length (8*(i+1)):Nat):Int):=by split<;>omega
 have hle:min s.length (8*(i+1))<=s.length:=UC _ _;simp+decide-dsimp only[f311,go_sem,w1,w2,hm,hle];refine .dT .refl .bR ?_;by_cases h:8*(i+1)<=s.length;.rw[Nat.min_eq_right h]
 .rw[bM ah,aT ah,aT ah]
def eC(key:ba)(i:Nat)(v:ba):Sl:=⟨cut (key.drop (8*i)),key.drop (8*(i+1)),v,false,⟨0,0⟩⟩
theorem ady(s v:ba)(i:Nat)(hs:s.length<60000)(hi:i<6000):bo 319 [bR s,int i,bR v] (.agg (eC s i v).cells):=by refine bo.ac 3 T0 func319 λh nx=>?_;simp+decide-dsimp only[f319,go_sem];refine aZ (PZ s i hs hi) ?_;simp+decide-dsimp only[go_sem];refine aZ (adr s i hs hi) ?_;simp+decide-dsimp only[go_sem,reduceAdd];refine .dT ?_ (.cQ (sP (eC s i v))) rfl;exact jh
def rF:Nat->ba->ba->Nat
 |0,_,_=>0
 |d+1,a,b=>if 8<a.length/\8<b.length/\a.take 8=b.take 8 then rF d (a.drop 8) (b.drop 8)+1 else 0
theorem DO:∀(d:Nat) (a b:ba),rF d a b<=d
 |0,_,_=>an _
 |d+1,a,b=>by
  unfold rF;split;.have:=DO d (a.drop 8) (b.drop 8);omega
  .omega
theorem zt:∀(d d':Nat) (a b:ba),a.length<=8*d->d<=d'->rF d a b=rF d' a b
 |0,d',a,b,h,_=>by
  cases d' with
  |zero=>rfl
  |succ d'=>unfold rF;rw[ak ah]
 |d+1,d',a,b,h,hd=>by
  cases d' with
  |zero=>omega
  |succ d'=>
   unfold rF;split;.rw[zt d d' (a.drop 8) (b.drop 8) (by rw[aC];omega) ah]
   .rfl
def alike(a b:ba):Nat:=rF a.length a b
theorem wg{x y:ba}(h:8<x.length/\8<y.length/\x.take 8=y.take 8):alike x y=alike (x.drop 8) (y.drop 8)+1:=by unfold alike;obtain⟨n,hn⟩:∃n,x.length=n+1:=⟨x.length-1,ah⟩;rw[hn,rF,aw h,zt (x.drop 8).length n (x.drop 8) (y.drop 8) ah (by rw[aC];omega)]
theorem sT{x y:ba}(h:¬(8<x.length/\8<y.length/\x.take 8=y.take 8)):alike x y=0:=by
 unfold alike;cases hx:x.length with
 |zero=>rfl
 |succ n=>rw[rF,ak h]
def Q0:Nat->cU:=λid=>if id=2 then[(z14,[],none)]else if id=3 then[([0,1,2,3],[],some 4),([],[],some 5),([],[],none)]else[]
theorem agY(a b:ba)(ha:a.length<60000)(hb:b.length<60000):bo 321 [bR a,bR b] (int (alike a b)):=by
 refine bo.ac 2 Q0 func321 λh nx=>?_;simp+decide-dsimp only[f321,go_sem];refine cL _ _ (λm s h' nx'=>∃(k:Nat) (x y:ba),x.length<60000/\y.length<60000/\m=x.length/\k+x.length<=a.length/\alike a b=k+alike x y/\ao s 0=bR x/\ao s 1=bR y/\ao s 5=int k/\h'=h/\nx<=nx') (n:=a.length) ?_ ?_;.simp+decide-dsimp only[go_sem];exact⟨0,a,b,ha,hb,rfl,ah,ah,rfl,rfl,rfl⟩
 rintro m s h' nx' ⟨k,x,y,hx,hy,rfl,hk,he,s0,s1,s5,rfl,l1⟩;by_cases h1:8<x.length
 .have jj:(8:Int)<(x.length:Int):=ah;have h1'':8<=x.length:=ah;by_cases h2:8<y.length
  .have nU:(8:Int)<(y.length:Int):=ah;have h2'':8<=y.length:=ah;have w1:k+1<9223372036854775808:=ah;have sx:eS prog 9 (bR x) none (some (int 8))=some (bR (x.take 8)):=GZ (i:=8) h1'';have sy:eS prog 9 (bR y) none (some (int 8))=some (bR (y.take 8)):=GZ (i:=8) h2'';have tx:eS prog 9 (bR x) (some (int 8)) none=some (bR (x.drop 8)):=rf (i:=8) h1'';have ty:eS prog 9 (bR y) (some (int 8)) none=some (bR (y.drop 8)):=rf (i:=8) h2'';by_cases h3:x.take 8=y.take 8;.simp+decide-dsimp only[go_sem,Q0,s0,s1,s5,jj,nU,sx,sy,tx,ty,h3,w1];have e:=wg ⟨h1,h2,h3⟩;exact⟨_,(by rw[aC];omega:(x.drop 8).length<_),k+1,x.drop 8,y.drop 8,by rw[aC];omega,by rw[aC];omega,rfl,by rw[aC];omega,ah,rfl,rfl,rfl,ah⟩
   .simp+decide-dsimp only[go_sem,Q0,s0,s1,s5,jj,nU,sx,sy,h3];exact .dT .refl .cA (by rw[he,sT (λh=>h3 h.2.2),dD])
  .have nU:¬(8:Int)<(y.length:Int):=ah;simp+decide-dsimp only[go_sem,Q0,s0,s1,s5,jj,nU];exact .dT .refl .cA (by rw[he,sT (λh=>h2 h.2.1),dD])
 .have jj:¬(8:Int)<(x.length:Int):=ah;simp+decide-dsimp only[go_sem,Q0,s0,s5,jj];exact .dT .refl .cA (by rw[he,sT (λh=>h1 h.1),dD])
variable{h':aG}{hd:Hd}{nx nx':Nat}
structure Mt where
 tb:Nat
 a:Ar Mn
 aO:Hd
 size:Int
 gm:Int
def Mt.own(t:Mt)(b:Nat):Prop:=b=t.tb\/t.a.own b
structure Mt.ok(t:Mt)(h:aG)(nx:Nat):Prop where
 tr:au h t.tb=some (.cells [.ptr t.a.pb 0,.ptr t.a.ab 0,int t.aO.ao,u64 t.aO.bk,.g (.int .i64 t.size),.g (.int .i64 t.gm),bQ false] 273)
 ok:MAr.ok t.a h nx
 d1:t.tb≠t.a.ab
 d2:t.tb≠t.a.mb
 d3:∀e∈t.a.es,e.bJ≠t.tb
 lt:t.tb<nx
 sl:∀e∈t.a.es,e.x.aE.sl.length=15
structure MW(t:Mt)(p:bj)(h:aG)(nx:Nat):Prop where
 tk:t.ok h nx
 pk:p.ok h nx
 sp:Sep t.a p
 sd:t.tb≠p.pb/\t.tb≠p.gb/\t.tb≠p.fb
theorem Mt.ok.dm{t:Mt}{h:aG}{nx:Nat}(o:t.ok h nx){b:Nat}(hb:t.own b):b<nx:=by
 rcases hb with e|e;.rw[e];exact o.lt
 .exact o.ok.dm e
theorem Mt.ok.aX{t:Mt}(o:t.ok h nx)(s:∀b,t.own b->au h' b=au h b)(hn:nx<=nx'):t.ok h' nx':=
 ⟨by rw[s _ (.inl rfl)];exact o.tr,o.ok.iy (λb hb=>s b (.inr hb)) hn,o.d1,o.d2,o.d3,aP o.lt hn,o.sl⟩
theorem MW.aX{t:Mt}{p:bj}{h h':aG}{nx nx':Nat}(o:MW t p h nx)(s:aH nx h h')(hn:nx<=nx'):MW t p h' nx':=
 ⟨o.tk.aX (λb hb=>s b (o.tk.dm hb)) hn,o.pk.aX s hn,o.sp,o.sd⟩
theorem SZ(t:Mt)(h:aG)(nx:Nat)(o:t.ok h nx):aA prog 307 [.ptr t.tb 0] h nx (dr (bQ false) h nx):=by refine aA.pc 1 T0 func307 ?_;simp+decide-dsimp only[f307,go_sem,o.tr];exact .dT .refl .cA rfl
theorem jP{a:Ar Mn}(ok:MAr.ok a h nx){n:Mn}(hs:cV a.es hd.ao=some (hd.bk,n)):
 ∃e∈a.es,e.ao=hd.ao/\e.bk=hd.bk/\e.x=n/\au h e.bJ=some (.cells (u64 hd.bk::n.cells) 334)/\e.bJ<nx/\∀h' nx',aH nx h h'->nx<=nx'->aA prog 312 [.ptr a.ab 0,.agg [int hd.ao,u64 hd.bk]] h' nx' (dr (.dN [.ptr e.bJ 1,bQ true]) h' nx'):=by
 obtain⟨e,he,e1,e2,e3⟩:=lG hs;have hc:=ok.cl e he;refine⟨e,he,e1,e2,e3,?_,(ok.fr e he).2.2,λh' nx' s hn=>?_⟩;.rw[hc,e2,e3]
 .have:=ak6 a h' nx' (ok.iy (λb hb=>s b (ok.dm hb)) hn) e he;rw[e1,e2]at this;exact this
variable{A:List AV}
def abp:Nat->cU:=λid=>if id=3 then[(z4,[],some 5),([6,7,8],[],some 9),([],[],some 10),([],[],none)]else[]
def Bg:List Value:= .bool false::(Wh++[.bool false,.slice none 0 0,.slice none 0 0,.slice none 0 0,.string ⟨#[]⟩,.bool false,.int .i64 0,.int .u64 0])
theorem ajq:dy prog 271=some Bg:=aL
attribute[go_sem] ajq
theorem AY{n:Mn}(hA:A.length=120)(hl:n.aE.sl.length=15):dJ 0 A n.cells=some n.cells:=by rw[cp _ _ _ (by rw[oD hl,hA];omega),dv,ch,fx,aT (by rw[oD hl,hA];omega),cD]
theorem F8(n:Mn):n.cells.all AV.cy=true:=by unfold Mn.cells;rw[List.all_cons,tL,gN];rfl
theorem qc(l:List ba):sB nx (strs l):=by
 show gU nx _;rw[gU.iff];intro a ha;simp at ha;obtain⟨x,_,h⟩:=ha;have:a=bR x:=by simpa[fH]using h
 subst this;trivial
theorem GI(l:List Hd):sB nx (r7 l):=by show gU nx _;rw[gU.iff];intro a ha;simp[Hd.cells]at ha;obtain⟨x,_,h⟩:=ha;rcases h with rfl|rfl<;>trivial
theorem Zt(n:Mn):gU nx n.cells:=⟨trivial,gU.app (MB _) ⟨trivial,qc _,qc _,GI _,trivial,trivial,trivial,trivial,trivial⟩⟩
theorem ab6(n:Mn):sB nx n.av:=Zt n
theorem ajt(t:Mt)(h:aG)(nx:Nat)(o:t.ok h nx){n:Mn}(hs:cV t.a.es hd.ao=some (hd.bk,n)):
 aA prog 333 [.ptr t.tb 0,hd.av,.g .nilFunc] h nx (dr (.dN [n.av,bQ true]) h nx):=by
 obtain⟨e,he,e1,e2,e3,e4,e5,e6⟩:=jP o.ok hs;have hl:n.aE.sl.length=15:=by rw[<-e3];exact o.sl e he
 have db:=o.lt;have d1:¬(t.tb=nx):=ah;have d2:¬(t.tb=nx+1):=ah;have d3:¬(e.bJ=nx):=ah;have d4:¬(e.bJ=nx+1):=ah;have d5:¬(nx=nx+1):=ah;refine aA.pc 3 abp func333 ?_;simp+decide-dsimp only[f333,go_sem,abp,Hd.av,Hd.cells,o.tr,d1,d2,d5];generalize hq:nx+1+1+Array.size _=nq;have rm:nx+2<=nq:=ah;clear hq;refine bm (e6 _ nq ?_ ah) ?_;.exact jh
 have fa:=Bp hl;have fl:=oD hl;have fs:=AY (A:=Bg.map AV.g) (n:=n) rfl hl;simp+decide-dsimp only[go_sem,e4,d3,d4,fa,fl,fs,F8];refine .dT ?_ (.jS (.cQ (ab6 n)) .cA) rfl;exact jh
variable{h2:aG}{p':bj}{t':Mt}
structure fc(nx:Nat)(t t':Mt)(p p':bj)(h h':aG):Prop where
 tb:t'.tb=t.tb
 ab:t'.a.ab=t.a.ab
 mb:t'.a.mb=t.a.mb
 pb:p'.pb=p.pb
 gb:p'.gb=p.gb
 fb:p'.fb=p.fb
 fl:p'.fr.length=p.fr.length
 fr:∀s,p.fr.getD s false=false->p'.fr.getD s false=false
 bJ:∀e∈t'.a.es,(∃f∈t.a.es,f.bJ=e.bJ)\/nx<=e.bJ
 old:∀e∈t.a.es,∃f∈t'.a.es,f.ao=e.ao/\f.bJ=e.bJ
 slt:∀e∈t'.a.es,(∃f∈t.a.es,f.ao=e.ao)\/p.fr.getD e.ao false=true
 aX:∀b,b<nx->b≠t.tb->b≠p.pb->b≠p.gb->b≠p.fb->b≠t.a.mb->(∀e∈t.a.es,e.bJ≠b)->au h' b=au h b
theorem fc.same{t:Mt}{p:bj}(s:aH nx h h'):fc nx t t p p h h':=⟨rfl,rfl,rfl,rfl,rfl,rfl,rfl,λ_ h=>h,λe he=> .inl ⟨e,he,rfl⟩,λe he=>⟨e,he,rfl,rfl⟩,λe he=> .inl ⟨e,he,rfl⟩,λb hb _ _ _ _ _ _=>s b hb⟩
theorem fc.trans{nx cm:Nat}{t t1 t2:Mt}{p p1 p2:bj}{h h1 h2:aG}(s1:fc nx t t1 p p1 h h1)(s2:fc cm t1 t2 p1 p2 h1 h2)(hn:nx<=cm):fc nx t t2 p p2 h h2:=by
 refine⟨s2.tb.trans s1.tb,s2.ab.trans s1.ab,s2.mb.trans s1.mb,s2.pb.trans s1.pb,s2.gb.trans s1.gb,s2.fb.trans s1.fb,s2.fl.trans s1.fl,λs hs=>s2.fr s (s1.fr s hs),λe he=>?_,λe he=>?_,λe he=>?_,λb hb g1 g2 g3 g4 g5 g6=>?_⟩
 .rcases s2.bJ e he with⟨f,hf,IH⟩|h
  .rcases s1.bJ f hf with⟨g,hg,hgf⟩|h;.exact .inl ⟨g,hg,hgf.trans IH⟩
   .exact .inr ah
  .exact .inr ah
 .obtain⟨f,hf,a1,a2⟩:=s1.old e he;obtain⟨g,hg,b1,b2⟩:=s2.old f hf;exact⟨g,hg,b1.trans a1,b2.trans a2⟩
 .rcases s2.slt e he with⟨f,hf,IH⟩|h
  .rcases s1.slt f hf with⟨g,hg,hgf⟩|h;.exact .inl ⟨g,hg,hgf.trans IH⟩
   .exact .inr (by rw[<-IH];exact h)
  .right;cases hq:p.fr.getD e.ao false with
   |true=>rfl
   |false=>rw[s1.fr _ hq]at h;cases h
 .rw[s2.aX b ah (by rw[s1.tb];exact g1) (by rw[s1.pb];exact g2) (by rw[s1.gb];exact g3) (by rw[s1.fb];exact g4) (by rw[s1.mb];exact g5) (λe he=>?_)];.exact s1.aX b hb g1 g2 g3 g4 g5 g6
  .rcases s1.bJ e he with⟨f,hf,IH⟩|h;.rw[<-IH];exact g6 f hf
   .omega
theorem MW.store{t:Mt}{p:bj}{h:aG}{nx:Nat}(o:MW t p h nx){e:jE Mn}(he:e∈t.a.es)(x:Mn)(hx:x.aE.sl.length=15):
 MW {t with a:={t.a with es:=iL t.a.es e.ao x}} p (aK h e.bJ (.cells (u64 e.bk::x.cells) 334)) nx/\fc nx t {t with a:={t.a with es:=iL t.a.es e.ao x}} p p h (aK h e.bJ (.cells (u64 e.bk::x.cells) 334)):=by
 have hf:=o.tk.ok.fr e he;have hd:=o.tk.d3 e he;have hs:=o.sp.sc e he;refine⟨⟨⟨by show au _ t.tb=_;rw[aj,ak hd.symm];exact o.tk.tr,o.tk.ok.store he x,o.tk.d1,o.tk.d2,λf mj=>?_,o.tk.lt,λf mj=>?_⟩,o.pk.iy (by rw[aj,ak hs.1.symm]) (by rw[aj,ak hs.2.1.symm]) (by rw[aj,ak hs.2.2.symm]) (an _),⟨o.sp.pb,o.sp.sa,o.sp.sm,λf mj=>?_,λf mj=>?_⟩,o.sd⟩,⟨rfl,rfl,rfl,rfl,rfl,rfl,rfl,λ_ h=>h,λf mj=>?_,λf mj=>?_,λf mj=>?_,λb _ _ _ _ _ _ g=>?_⟩⟩;.obtain⟨g,hg,_,e2,_⟩:=eT mj;rw[<-e2];exact o.tk.d3 g hg
 .obtain⟨g,hg,e1,e2,e3,e4,e5⟩:=eT mj;by_cases Kl:g.ao=e.ao;.rw[e4 Kl];exact hx
  .rw[e5 Kl];exact o.tk.sl g hg
 .obtain⟨g,hg,_,e2,_⟩:=eT mj;rw[<-e2];exact o.sp.sc g hg
 .obtain⟨g,hg,e1,_⟩:=eT mj;rw[<-e1];exact o.sp.taken g hg
 .obtain⟨g,hg,_,e2,_⟩:=eT mj;exact .inl ⟨g,hg,e2⟩
 .by_cases Kl:f.ao=e.ao;.exact⟨{f with x:=x},bu.2 ⟨f,mj,by rw[aw Kl]⟩,rfl,rfl⟩
  .exact⟨f,bu.2 ⟨f,mj,by rw[ak Kl]⟩,rfl,rfl⟩
 .obtain⟨g,hg,e1,_⟩:=eT mj;exact .inl ⟨g,hg,e1⟩
 .rw[aj,ak (g e he).symm]
theorem MW.alloc{t:Mt}{p:bj}(o:MW t p h nx)(hc:p.fr.count true≠0)(x:Mn)(hx:x.aE.sl.length=15):
 aA prog 147 [.ptr t.a.ab 0,x.av] h nx λv h' nx'=>∃i bJ,cV t.a.es i=none/\v= .dN [(Hd.mk i (p.gs.getD i 0)).av,int 0]/\
  MW {t with a:={t.a with ck:=t.a.ck+1,es:=t.a.es++[⟨i,bJ,t.a.ck,p.gs.getD i 0,x⟩]}} {p with fr:=p.fr.set i false} h' nx'/\
  fc nx t {t with a:={t.a with ck:=t.a.ck+1,es:=t.a.es++[⟨i,bJ,t.a.ck,p.gs.getD i 0,x⟩]}} p {p with fr:=p.fr.set i false} h h'/\({p with fr:=p.fr.set i false}:bj).fr.count true+1=p.fr.count true/\nx<=bJ:=by
 refine(akQ t.a p h nx o.tk.ok o.pk o.sp hc x hx).le.mono _ ?_;rintro v h' nx' ⟨ln,i,bJ,hi,ht,rfl,q1,q2,q3,q4⟩;have mS:∀e∈t.a.es,e.ao≠i:=λe he hs=>by have:=(o.sp.taken e he).2;rw[hs,ht]at this;cases this
 have tP:∀s,(p.fr.set i false).getD s false=false\/(p.fr.set i false).getD s false=p.fr.getD s false:=by
  intro s;by_cases hs:i=s;.subst hs;left;simp[List.getD,hi]
  .right;simp[List.getD,hs]
 have htb:au h' t.tb=au h t.tb:=q4 _ o.tk.lt o.sd.1 o.sd.2.1 o.sd.2.2 o.tk.d2;refine⟨i,bJ,qn mS,rfl,⟨⟨by show au _ t.tb=_;rw[htb];exact o.tk.tr,q2,o.tk.d1,o.tk.d2,λe he=>?_,aP o.tk.lt ln,λe he=>?_⟩,q1,⟨o.sp.pb,o.sp.sa,o.sp.sm,λe he=>?_,λe he=>?_⟩,o.sd⟩,⟨rfl,rfl,rfl,rfl,rfl,rfl,bL,λs hs=>?_,λe he=>?_,λe he=>⟨e,ix _ he,rfl,rfl⟩,λe he=>?_,λb hb g1 g2 g3 g4 g5 g6=>q4 b hb g2 g3 g4 g5⟩,count_set hi ht,q3⟩
 .rcases bp.1 he with he|he;.exact o.tk.d3 e he
  .simp only[aR]at he;subst he;have:=o.tk.lt;show bJ≠t.tb;omega
 .rcases bp.1 he with he|he;.exact o.tk.sl e he
  .simp only[aR]at he;subst he;exact hx
 .have a1:=o.pk.rY;have a2:=o.pk.ss;have a3:=o.pk.sr;rcases bp.1 he with he|he
  .exact o.sp.sc e he
  .simp only[aR]at he;subst he;show bJ≠p.pb/\bJ≠p.gb/\bJ≠p.fb;omega
 .rcases bp.1 he with he|he
  .have:=o.sp.taken e he;refine⟨by simpa using this.1,?_⟩;rcases tP e.ao with h|h
   .exact h
   .exact h.trans this.2
  .simp only[aR]at he;subst he;refine⟨by simpa using hi,?_⟩;show(p.fr.set i false).getD i false=false;simp[List.getD,hi]
 .rcases tP s with h|h;.exact h
  .exact h.trans hs
 .rcases bp.1 he with he|he;.exact .inl ⟨e,he,rfl⟩
  .simp only[aR]at he;subst he;exact .inr q3
 .rcases bp.1 he with he|he;.exact .inl ⟨e,he,rfl⟩
  .simp only[aR]at he;subst he;exact .inr ht
theorem MW.ur{t:Mt}{p:bj}(o:MW t p h nx)(hc:p.fr.count true≠0)(x:Mn)(hx:x.aE.sl.length=15):
 aA prog 147 [.ptr t.a.ab 0,x.av] h nx λv h' nx'=>∃(t':Mt) (p':bj) (hd:Hd),cV t.a.es hd.ao=none/\v= .dN [.agg [int hd.ao,u64 hd.bk],int 0]/\MW t' p' h' nx'/\fc nx t t' p p' h h'/\
  cV t'.a.es=up (cV t.a.es) hd.ao (hd.bk,x)/\t'.aO=t.aO/\(t'.size=t.size/\t'.gm=t.gm)/\p'.fr.count true+1=p.fr.count true:=by
 refine(o.alloc hc x hx).mono _ ?_;rintro v h' nx' ⟨i,bJ,f1,f2,B1,fI,f3,f4⟩;refine⟨_,_,⟨i,p.gs.getD i 0⟩,f1,f2,B1,fI,?_,rfl,⟨rfl,rfl⟩,f3⟩;refine zW λe he hs=>?_;have:=qI o.tk.ok.rK he;rw[hs]at this;have:=f1.symm.trans this;cases this
theorem MW.kI{t:Mt}{p:bj}(o:MW t p h nx){e:jE Mn}(he:e∈t.a.es)(h1:e.ao=hd.ao)(h2:e.bk=hd.bk)(x:Mn)(hx:x.aE.sl.length=15):
 ∃t':Mt,MW t' p (aK h e.bJ (.cells (u64 hd.bk::x.cells) 334)) nx/\fc nx t t' p p h (aK h e.bJ (.cells (u64 hd.bk::x.cells) 334))/\cV t'.a.es=up (cV t.a.es) hd.ao (hd.bk,x)/\t'.aO=t.aO/\t'.size=t.size/\t'.gm=t.gm:=by
 have:=o.store he x hx;rw[h2]at this;exact⟨_,this.1,this.2,by rw[<-h1,<-h2];exact qT o.tk.ok.rK he x,rfl,rfl,rfl⟩
theorem fc.qM{t:Mt}{p:bj}(s:fc nx t t' p p' h h')(o:MW t' p' h2 nx'){e e':jE Mn}(he:e∈t.a.es)(tM:e'∈t'.a.es)(hs:e'.ao=e.ao):e'.bJ=e.bJ:=by obtain⟨f,hf,a1,a2⟩:=s.old e he;rw[jw o.tk.ok.rK tM hf (hs.trans a1.symm),a2]
variable{a:AV}{r:dG}
theorem MW.tree{t:Mt}{p:bj}(o:MW t p h nx)(aO:Hd)(size gm:Int):
 MW {t with aO:=aO,size:=size,gm:=gm} p (aK h t.tb (.cells [.ptr t.a.pb 0,.ptr t.a.ab 0,int aO.ao,u64 aO.bk,.g (.int .i64 size),.g (.int .i64 gm),bQ false] 273)) nx/\
 fc nx t {t with aO:=aO,size:=size,gm:=gm} p p h (aK h t.tb (.cells [.ptr t.a.pb 0,.ptr t.a.ab 0,int aO.ao,u64 aO.bk,.g (.int .i64 size),.g (.int .i64 gm),bQ false] 273)):=by
 have hd:=o.sd;refine⟨⟨⟨by show au _ t.tb=_;rw[aj,aw rfl],⟨by rw[aj,ak o.tk.d1.symm];exact o.tk.ok.ar,by rw[aj,ak o.tk.d2.symm];exact o.tk.ok.mp,λe he=>by rw[aj,ak (o.tk.d3 e he)];exact o.tk.ok.cl e he,o.tk.ok.rK,o.tk.ok.IL,o.tk.ok.fr,o.tk.ok.ne,o.tk.ok.la,o.tk.ok.lm⟩,o.tk.d1,o.tk.d2,o.tk.d3,o.tk.lt,o.tk.sl⟩,
  o.pk.iy (by rw[aj,ak hd.1.symm]) (by rw[aj,ak hd.2.1.symm]) (by rw[aj,ak hd.2.2.symm]) (an _),o.sp,o.sd⟩,
  ⟨rfl,rfl,rfl,rfl,rfl,rfl,rfl,λ_ h=>h,λe he=> .inl ⟨e,he,rfl⟩,λe he=>⟨e,he,rfl,rfl⟩,λe he=> .inl ⟨e,he,rfl⟩,λb _ g _ _ _ _ _=>by rw[aj,ak g]⟩⟩
theorem fc.p{nx:Nat}{t t':Mt}{p p':bj}{h h':aG}(s:fc nx t t' p p' h h'):dA nx t.own t'.own t.a.sl t'.a.sl p p' h h':=
 ⟨s.pb,s.gb,s.fb,s.fl,λx hx=> .inl (s.fr x hx),λb hb=>by
  rcases hb with e1|e1|e1|⟨e,he,rfl⟩;.exact .inl (.inl (e1.trans s.tb))
  .exact .inl (.inr (.inl (e1.trans s.ab)))
  .exact .inl (.inr (.inr (.inl (e1.trans s.mb))))
  .rcases s.bJ e he with⟨f,hf,e1⟩|q;.exact .inl (.inr (.inr (.inr ⟨f,hf,e1⟩)))
   .exact .inr q,λx hx=>by
  obtain⟨e,he,rfl⟩:=hx;rcases s.slt e he with q|q;.exact .inl q
  .exact .inr q,λb hb ho g1 g2 g3=>s.aX b hb (λe=>ho (.inl e)) g1 g2 g3 (λe=>ho (.inr (.inr (.inl e)))) (λe he e'=>ho (.inr (.inr (.inr ⟨e,he,e'⟩))))⟩
def zR:Nd:={aE:=false,aJ:=[],fQ:=[],bU:=[],cR:=[],bd:=false,next:=⟨0,0⟩}
abbrev zin:List AV:=[bQ false,.g (.slice none 0 0),.g (.slice none 0 0),.g (.slice none 0 0),bR [],bQ false,int 0,u64 0]
theorem eM.parts{r:dG}:∀{a b:List AV} {vs:List Value},eM r (a++b) vs->∃v1 v2,vs=v1++v2/\eM r a v1/\eM r b v2
 |[],b,vs,h=>⟨[],vs,rfl,.nil,h⟩
 |x::a,b,vs,h=>by
  cases h with|cons h1 h=>
  obtain⟨v1,v2,rfl,q1,q2⟩:=eM.parts h;exact⟨_::v1,v2,rfl,.cons h1 q1,q2⟩
theorem eM.join{r:dG}:∀{a b:List AV} {v1 v2:List Value},eM r a v1->eM r b v2->eM r (a++b) (v1++v2)
 |[],_,_,_,.nil,h=>h
 |_::_,_,_,_,.cons h1 h,h2=> .cons h1 (eM.join h h2)
theorem Mc{cQ:Bool}{l:Lf}{vs:List Value}(h:eM r [a,.agg (bQ cQ::(l.cells++zin))] vs):eM r [a,(Mn.mk cQ l zR).av] vs:=by
 cases h with|cons h1 h=>cases h with|cons h2 h=>cases h with|nil=>
 refine .cons h1 (.cons ?_ .nil);cases h2 with|agg h=>
 cases h with|cons a1 h=>
 obtain⟨v1,v2,rfl,q1,q2⟩:=eM.parts h;clear h;cases q2 with|cons b1 h=>cases h with|cons b2 h=>cases h with|cons b3 h=>cases h with|cons b4 h=>cases h with|cons b5 h=>cases h with|cons b6 h=>cases h with|cons b7 h=>cases h with|cons b8 h=>cases h with|nil=>
 exact VR.agg (c:=_::(v1++[_,_,_,_,_,_,_,_])) (.cons a1 (eM.join q1 (.cons b1 (.cons (qB b2) (.cons (qB b3) (.cons (qB b4) (.cons b5 (.cons b6 (.cons b7 (.cons b8 .nil))))))))))
def aa7:Nat->cU:=λid=>if id=1 then[([0,1,2,3,10],[3],some 4),([5],[3,10],some 6),([7,8,9],[10],some 11),([],[],some 12),([],[],none)]else[]
def t271:List AV:=(Bg.map AV.g).drop 1
theorem aa3{b:Bool}:dJ 0 (Bg.map AV.g) [bQ b]=some (bQ b::t271):=by rw[cp _ _ _ (by simp[Bg])];rfl
theorem afp{l:Lf}(hl:l.sl.length=15):dJ 0 t271 l.cells=some (l.cells++zin):=by have e:t271.length=119:=rfl;rw[cp _ _ _ (by rw[dW hl,e];omega),dv,ch,fx,dW hl];rfl
def iM:Mn:=⟨true,iN,zR⟩
theorem ai9(t:Mt)(p:bj)(h:aG)(nx:Nat)(o:MW t p h nx)(hc:p.fr.count true≠0):
 aA prog 134 [.ptr t.tb 0] h nx λv h' nx'=>∃(t':Mt) (p':bj) (hd:Hd),cV t.a.es hd.ao=none/\v= .dN [hd.av,int 0]/\MW t' p' h' nx'/\fc nx t t' p p' h h'/\
  cV t'.a.es=up (cV t.a.es) hd.ao (hd.bk,iM)/\t'.aO=t.aO/\t'.size=t.size/\p'.fr.count true+1=p.fr.count true:=by
 have db:=o.tk.lt;have d1:¬(t.tb=nx):=ah;have d2:∀q,¬(t.tb=nx+1+q):=λq=>ah;have d3:∀q,¬(nx=nx+1+q):=λq=>ah;refine aA.ac 1 aa7 func134 ?_;simp+decide-dsimp only[f134,go_sem,aa7,o.tk.tr,d1,d2];generalize hq:nx+1+Array.size _=nq;have rm:nx+1+13<=nq:=by rw[<-hq];exact eI bN _
 clear hq;generalize hH:aK (aK h nx _) (nx+1+10) _=H;have S0:aH nx h H:=by rw[<-hH];exact jh
 have g0:au H nx=some (.cells [int 0,u64 0] 245):=by rw[<-hH,aj,ak (d3 _),aj,aw rfl]
 have g1:au H (nx+1+10)=some (.cells [int 0,u64 0] 245):=by rw[<-hH,aj,aw rfl]
 clear hH;have o1:=o.aX S0 (ah:nx<=nq);have k1:au H t.tb=_:=o1.tk.tr;refine aZ ahU ?_;have b1:=afp (l:=iN) rfl;simp+decide-dsimp only[go_sem,k1,g1,aa3,b1];refine cf (aA.Ue (args':=[.ptr t.a.ab 0,iM.av]) (by rfl) (λr vs hv=>Mc hv) (o1.ur hc iM rfl)) λ_ h2 dU l2 ⟨t1,p1,x,f1,f2,B1,fI,f3,f4,f5,f6⟩=>?_
 subst f2;have ui:∀c,nx<=c->c<nq->au h2 c=au H c:=λc h1 h2=>fI.aX c h2 ah (by have:=o.pk.rY;omega) (by have:=o.pk.ss;omega) (by have:=o.pk.sr;omega) (by have:=o.tk.ok.lm;omega) (λe he e'=>by have:=(o.tk.ok.fr e he).2.2;omega)
 have q0:au h2 nx=some (.cells [int 0,u64 0] 245):=by rw[ui _ (an _) ah];exact g0
 have q1:au h2 (nx+1+10)=some (.cells [int 0,u64 0] 245):=by rw[ui _ ah ah];exact g1
 have q2:au h2 t.tb=some (.cells [.ptr t1.a.pb 0,.ptr t1.a.ab 0,int t1.aO.ao,u64 t1.aO.bk,.g (.int .i64 t1.size),.g (.int .i64 t1.gm),bQ false] 273):=by have:=B1.tk.tr;rw[fI.tb]at this;exact this
 have d4:∀q,¬(nx+1+q=t.tb):=λq=>ah;have d5:¬(nx=t.tb):=ah;have d6:∀q,¬(nx+1+q=nx):=λq=>ah;simp+decide-dsimp only[go_sem,q0,q1,q2,d2,d3,d4,d5,Hd.av,Hd.cells,reduceAdd];generalize cF .i64 (t1.gm+1)=ly;have mS:∀c,t1.own c->c≠nx/\c≠nx+1+10:=λc hc=>by
  rcases fI.p.bl c hc with q|q;.have:=o.tk.dm q;omega
  .omega
 generalize hG:aK h2 (nx+1+10) _=G;have G1:∀c,c≠nx+1+10->au G c=au h2 c:=λc hc=>by rw[<-hG,aj,ak hc]
 clear hG;have e1:=o.pk.rY;have e2:=o.pk.ss;have e3:=o.pk.sr;have B2:MW t1 p1 G dU:=⟨B1.tk.aX (λc hc=>G1 c (mS c hc).2) (an _),B1.pk.iy (G1 _ (by rw[fI.pb];omega)) (G1 _ (by rw[fI.gb];omega)) (G1 _ (by rw[fI.fb];omega)) (an _),B1.sp,B1.sd⟩;obtain⟨B3,S3⟩:=B2.tree t1.aO t1.size ly;generalize hK:aK G t1.tb _=K at B3 S3;rw[fI.tb]at hK;rw[hK];refine⟨{t1 with gm:=ly},p1,x,f1,rfl,?_,?_,f3,f4,f5.1,f6⟩;.exact⟨B3.tk.aX (λc hc=>by rw[aj,ak (mS c hc).1]) (an _),B3.pk.iy (by rw[aj,ak (by rw[fI.pb];omega)]) (by rw[aj,ak (by rw[fI.gb];omega)]) (by rw[aj,ak (by rw[fI.fb];omega)]) (an _),B3.sp,B3.sd⟩
 .refine⟨fI.tb,fI.ab,fI.mb,fI.pb,fI.gb,fI.fb,fI.fl,fI.fr,λe he=>?_,fI.old,fI.slt,λb hb w1 w2 w3 w4 w5 w6=>?_⟩
  .rcases fI.bJ e he with q|q;.exact .inl q
   .exact .inr ah
  .rw[aj,ak ah,S3.aX b ah (by rw[fI.tb];exact w1) (by rw[fI.pb];exact w2) (by rw[fI.gb];exact w3) (by rw[fI.fb];exact w4) (by rw[fI.mb];exact w5) (λe he=>?_),G1 b ah,fI.aX b ah w1 w2 w3 w4 w5 w6,S0 b hb];rcases fI.bJ e he with⟨f,hf,q⟩|q
   .rw[<-q];exact w6 f hf
   .omega
theorem amZ(p:bj)(h:aG)(nx:Nat)(sg:p.ok h nx)(hc:p.fr.count true≠0):
 aA prog 111 [.ptr p.pb 0] h nx λr h' nx'=>∃(t:Mt) (p':bj),r= .dN [.ptr t.tb 0,int 0]/\MW t p' h' nx'/\dA nx (λ_=>False) t.own (λ_=>False) t.a.sl p p' h h'/\p'.fr.count true+1=p.fr.count true/\cV t.a.es=up (λ_=>none) t.aO.ao (t.aO.bk,iM):=by
 have l1:=sg.rY;have l2:=sg.ss;have l3:=sg.sr;refine aA.ac 1 T0 func111 ?_;simp+decide-dsimp only[f111,go_sem];refine cf (amj h nx p.pb) λ_ h1 cm l1 ⟨ab,mb,g1,g2,g3,g4,g5,g6,g7,g8,g9⟩=>?_;subst g6;simp+decide-dsimp only[go_sem];have B0:MW ⟨cm,⟨ab,mb,0,p.pb,[]⟩,⟨0,0⟩,0,0⟩ p (aK h1 cm (.cells [.ptr p.pb 0,.ptr ab 0,int 0,u64 0,int 0,int 0,bQ false] 273)) (cm+1):=by
  refine⟨⟨by rw[aj,aw rfl];rfl,⟨by show au _ ab=_;rw[aj,ak ah];exact g7,by show au _ mb=_;rw[aj,ak ah];exact g8,(λe he=>by cases he),nY,nY,(λe he=>by cases he),g3,by show ab<_;omega,by show mb<_;omega⟩,by show cm≠ab;omega,by show cm≠mb;omega,(λe he=>by cases he),aW _,(λe he=>by cases he)⟩,
   sg.aX (λb hb=>by rw[aj,ak ah];exact g9 b hb) ah,⟨rfl,⟨by show ab≠_;omega,by show ab≠_;omega,by show ab≠_;omega⟩,⟨by show mb≠_;omega,by show mb≠_;omega,by show mb≠_;omega⟩,(λe he=>by cases he),(λe he=>by cases he)⟩,⟨by show cm≠_;omega,by show cm≠_;omega,by show cm≠_;omega⟩⟩
 refine cf (ai9 _ p _ _ B0 hc) λ_ h2 dU l2 ⟨t1,p1,x,f1,f2,B1,fI,f3,f4,f5,f6⟩=>?_;subst f2;have k1:au h2 cm=some (.cells [.ptr t1.a.pb 0,.ptr t1.a.ab 0,int t1.aO.ao,u64 t1.aO.bk,.g (.int .i64 t1.size),.g (.int .i64 t1.gm),bQ false] 273):=by have:=B1.tk.tr;rw[fI.tb]at this;exact this
 have d1:¬(cm=dU):=ah;simp+decide-dsimp only[go_sem,k1,d1,Hd.av,Hd.cells,reduceAdd];obtain⟨B2,tH⟩:=B1.tree x t1.size t1.gm;generalize hK:aK h2 t1.tb _=K at B2 tH;rw[fI.tb]at hK;have pz:=(fI.trans tH ah).p;have CS:∀b,Mt.own ⟨cm,⟨ab,mb,0,p.pb,[]⟩,⟨0,0⟩,0,0⟩ b->nx<=b:=by
  rintro b (e|e|e|⟨e,he,_⟩);.have e:b=cm:=e;omega
  .have e:b=ab:=e;omega
  .have e:b=mb:=e;omega
  .cases he
 have tb1:t1.tb=cm:=fI.tb;refine⟨{t1 with aO:=x},p1,by show AV.dN [.ptr cm 0,int 0]=AV.dN [.ptr t1.tb 0,int 0];rw[tb1],B2.aX (aH.refl.trans ?_ (an _)) ah,⟨pz.pb,pz.gb,pz.fb,pz.fl,λs hs=>?_,λb hb=>?_,λs hs=>?_,λb hb _ q1 q2 q3=>?_⟩,f6,by rw[f3];rfl⟩;.rw[<-hK];exact aH.fJ ((aH.refl.set (an _)).set (an _))
 .rcases pz.fr s hs with q|⟨e,he,_⟩;.exact .inl q
  .cases he
 .rcases pz.bl b hb with q|q;.exact .inr (CS b q)
  .right;omega
 .rcases pz.slt s hs with⟨e,he,_⟩|q;.cases he
  .exact .inr q
 .have e:au K b=au h b:=by rw[pz.aX b ah (λh=>by have:=CS b h;omega) q1 q2 q3,aj,ak ah];exact g9 b hb
  rw[<-e,<-hK];exact aH.fJ ((aH.refl.set (an dU)).set (an dU)) b ah
abbrev kS:=Nat->Option (Nat×Mn)
def Mn.lx(n:Mn):List ba:=if n.cQ then(List.range n.aE.n).map λi=>pP (n.aE.e i).m else n.aN.aJ
def Mn.mR(n:Mn):Bool:=if n.cQ then n.aE.bd else n.aN.bd
def Mn.gA(n:Mn):ba:=if n.cQ then pP n.aE.cR else n.aN.cR
def nameOf(m:ba):ba:=m.take 8
structure xw(Pk:ba->Prop)(σ:kS)(pre:Nat->ba)(lo:Nat->ba)(par:Nat->Nat)(s:Nat)(x:Sl):Prop where
 key:x.deep=false->Pk (pre s++nameOf x.m++x.rest)/\(pre s++nameOf x.m++x.rest).length<=24/\(pre s≠[]->x.m≠[])
 link:x.deep=true->(∃n,σ x.link.ao=some (x.link.bk,n)/\n.mR=false)/\pre x.link.ao=pre s++nameOf x.m/\lo x.link.ao=[]/\par x.link.ao=s
structure MI(Pk:ba->Prop)(σ:kS)(aO:Hd)(pre lo:Nat->ba)(fC par rk:Nat->Nat)(iJ:Nat->Prop):Prop where
 cQ:∀s g n,σ s=some (g,n)->(n.cQ=true↔fC s=0)
 lf:∀s g n,σ s=some (g,n)->n.cQ=true->n.aE.R/\(n.aE.n<=6\/(iJ s/\n.aE.n=7))
 nd:∀s g n,σ s=some (g,n)->n.cQ=false->n.aN.R/\n.aN.aE=false/\(n.aN.aJ.length<=4\/(iJ s/\n.aN.aJ.length=5))
 IA:∀s g n,σ s=some (g,n)->∀k∈n.lx,¬k<lo s/\(n.cQ=false->lo s<k)
 tB:∀s g n,σ s=some (g,n)->n.mR=true->lo s<n.gA
 lQ:∀s g n,σ s=some (g,n)->n.cQ=false->∀i,i<n.aN.bU.length->∃m,σ (n.aN.bU.getD i default).ao=some ((n.aN.bU.getD i default).bk,m)/\fC (n.aN.bU.getD i default).ao+1=fC s/\
  pre (n.aN.bU.getD i default).ao=pre s/\par (n.aN.bU.getD i default).ao=s/\lo (n.aN.bU.getD i default).ao=jd lo s n.aN i/\m.mR=kK n.aN i/\(m.mR=true->m.gA=lO n.aN i)
 ao:∀s g n,σ s=some (g,n)->n.cQ=true->∀i,i<n.aE.n->xw Pk σ pre lo par s (n.aE.e i)
 next:∀s g n,σ s=some (g,n)->n.cQ=true->n.aE.bd=true->∃m,σ n.aE.next.ao=some (n.aE.next.bk,m)/\m.cQ=true/\pre n.aE.next.ao=pre s/\rk n.aE.next.ao<rk s
 rt:(∃n,σ aO.ao=some (aO.bk,n)/\n.mR=false)/\lo aO.ao=[]/\pre aO.ao=[]/\par aO.ao=aO.ao
 pl:∀s g n,σ s=some (g,n)->∃i,(pre s).length=8*i/\i<=2
theorem MI.new(Pk:ba->Prop)(x:Hd):MI Pk (up (λ_=>none) x.ao (x.bk,iM)) x (λ_=>[]) (λ_=>[]) (λ_=>0) (λ_=>x.ao) (λ_=>0) (λ_=>False):=by
 have get:∀s g n,up (λ_=>none) x.ao (x.bk,iM) s=some (g,n)->s=x.ao/\n=iM:=by
  intro s g n h;by_cases e:s=x.ao;.rw[e,cO]at h;injection h with h;injection h with _ h;exact⟨e,h.symm⟩
  .rw[cH e]at h;cases h
 refine⟨λs g n h=>?_,λs g n h=>?_,λs g n h=>?_,λs g n h=>?_,λs g n h=>?_,λs g n h=>?_,λs g n h=>?_,λs g n h=>?_,⟨⟨_,cO,rfl⟩,rfl,rfl,rfl⟩,λs g n h=>⟨0,rfl,ah⟩⟩
 all_goals obtain⟨rfl,rfl⟩:=get s g n h
 .exact⟨λ_=>rfl,λ_=>rfl⟩
 .exact λ_=>⟨oJ,.inl bN⟩
 .exact λh=>by cases h
 .intro k hk;cases hk
 .exact λh=>by cases h
 .exact λh=>by cases h
 .exact λ_ i hi=>absurd hi (bW _)
 .exact λ_ h=>by cases h
theorem Mn.fZ{n:Mn}(hh:n.cQ=true->rW n.aE.cR){m:ba}(hm:rW m):n.dI m=true↔(n.mR=true->pP m<n.gA):=by
 unfold Mn.dI Mn.mR Mn.gA;cases wH:n.cQ with
 |true=>
  simp only[cz];unfold Lf.dI;cases n.aE.bd with
  |false=>simp
  |true=>simp[ED hm (hh wH)]
 |false=>simp only[dk,cC];exact bC.fZ
section
variable{Pk:ba->Prop}{σ:kS}{aO:Hd}{pre lo:Nat->ba}{fC par rk:Nat->Nat}{iJ:Nat->Prop}
theorem MI.down(I:MI Pk σ aO pre lo fC par rk iJ){s g:Nat}{n:Mn}(hs:σ s=some (g,n))(hl:n.cQ=false){k:ba}(je:¬k<lo s)(hc:n.mR=true->k<n.gA):
 ∃m,σ (n.aN.bU.getD (n.aN.iU k) default).ao=some ((n.aN.bU.getD (n.aN.iU k) default).bk,m)/\fC (n.aN.bU.getD (n.aN.iU k) default).ao+1=fC s/\
  pre (n.aN.bU.getD (n.aN.iU k) default).ao=pre s/\¬k<lo (n.aN.bU.getD (n.aN.iU k) default).ao/\(m.mR=true->k<m.gA):=by
 obtain⟨hR,jL,_⟩:=I.nd _ _ _ hs hl;obtain⟨m,h1,h2,h3,_,h4,h5,h6⟩:=I.lQ _ _ _ hs hl _ (hR.A3 jL k);refine⟨m,h1,h2,h3,?_,λhb=>?_⟩
 .rw[h4];unfold jd;split;.exact je
  .exact(He hR ah).2
 .rw[h6 hb];rw[h5]at hb;unfold kK at hb;unfold lO;split;.rename_i h;exact GO hR h
  .rename_i h;rw[ak h]at hb;have:=hc (by unfold Mn.mR;rw[hl];exact hb);unfold Mn.gA at this;rw[hl]at this;exact this
end
inductive nS(σ:kS)(k:ba):Hd->List Hd->Hd->Mn->Prop
 |here {h:Hd} {n:Mn} (hs:σ h.ao=some (h.bk,n)) (hl:n.cQ=true):nS σ k h [h] h n
 |lQ {h:Hd} {n:Mn} {l:List Hd} {f:Hd} {m:Mn} (hs:σ h.ao=some (h.bk,n)) (hl:n.cQ=false) (d:nS σ k (n.aN.bU.getD (n.aN.iU k) default) l f m):nS σ k h (h::l) f m
theorem nS.fun{σ:kS}{k:ba}{h:Hd}{l l':List Hd}{f f':Hd}{m m':Mn}(a:nS σ k h l f m)(b:nS σ k h l' f' m'):l=l'/\f=f'/\m=m':=by
 induction a generalizing l' f' m' with
 |here hs hl=>
  cases b with
  |here qH oh=>rw[hs]at qH;injection qH with e;injection e with _ e;exact⟨rfl,rfl,e⟩
  |lQ qH oh _=>rw[hs]at qH;injection qH with e;injection e with _ e;subst e;rw[hl]at oh;cases oh
 |lQ hs hl _ ih=>
  cases b with
  |here qH oh=>rw[hs]at qH;injection qH with e;injection e with _ e;subst e;rw[hl]at oh;cases oh
  |lQ qH oh d'=>
   rw[hs]at qH;injection qH with e;injection e with _ e;subst e
   obtain⟨e1,e2,e3⟩:=ih d';exact⟨by rw[e1],e2,e3⟩
theorem nS.aE{σ:kS}{k:ba}{h:Hd}{l:List Hd}{f:Hd}{m:Mn}(a:nS σ k h l f m):σ f.ao=some (f.bk,m)/\m.cQ=true:=by
 induction a with
 |here hs hl=>exact⟨hs,hl⟩
 |lQ _ _ _ ih=>exact ih
section
variable{Pk:ba->Prop}{σ:kS}{aO:Hd}{pre lo:Nat->ba}{fC par rk:Nat->Nat}{iJ:Nat->Prop}
theorem MI.total(I:MI Pk σ aO pre lo fC par rk iJ){k:ba}:∀(d:Nat) (h:Hd) (n:Mn),σ h.ao=some (h.bk,n)->fC h.ao=d->¬k<lo h.ao->(n.mR=true->k<n.gA)->
 ∃l f m,nS σ k h l f m/\l.length=d+1/\pre f.ao=pre h.ao/\¬k<lo f.ao/\(m.mR=true->k<m.gA):=by
 intro d
 induction d with
 |zero=>intro h n hs hd je hc;exact⟨[h],h,n,.here hs ((I.cQ _ _ _ hs).2 hd),rfl,rfl,je,hc⟩
 |succ d ih=>
  intro h n hs hd je hc;have hl:n.cQ=false:=by
   cases hl:n.cQ with
   |false=>rfl
   |true=>have:=(I.cQ _ _ _ hs).1 hl;omega
  obtain⟨m,h1,h2,h3,h4,h5⟩:=I.down hs hl je hc;obtain⟨l,f,m',q1,q2,q3,q4,q5⟩:=ih _ m h1 ah h4 h5;exact⟨h::l,f,m',.lQ hs hl q1,by simp[q2],q3.trans h3,q4,q5⟩
end
section
variable{Pk:ba->Prop}{σ σ':kS}{aO:Hd}{pre lo lH jn:Nat->ba}{fC par rk par':Nat->Nat}{iJ big':Nat->Prop}
theorem xw.to{s s':Nat}{x:Sl}(h:xw Pk σ pre lo par s x)(hp:lH s'=pre s)(ht:x.deep=true->(∀n,σ x.link.ao=some (x.link.bk,n)->n.mR=false->∃n',σ' x.link.ao=some (x.link.bk,n')/\n'.mR=false)/\lH x.link.ao=pre x.link.ao/\jn x.link.ao=lo x.link.ao/\par' x.link.ao=s'):xw Pk σ' lH jn par' s' x:=by
 refine⟨λhd=>?_,λhd=>?_⟩;.rw[hp];exact h.key hd
 .obtain⟨⟨n,a1,a2⟩,a3,a4,a5⟩:=h.link hd;obtain⟨b1,b2,b3,b4⟩:=ht hd;exact⟨b1 n a1 a2,by rw[b2,a3,hp],by rw[b3,a4],b4⟩
theorem rW.link{m m':ba}(h:rW m)(h':rW m')(l:m.length=9)(l':m'.length=9)(e:nameOf m=nameOf m'):m=m':=by
 refine h.inj h' (wO λi hi=>?_) ah;have:(nameOf m).getD i 0=(nameOf m').getD i 0:=by rw[e]
 unfold nameOf at this;simpa[az,eE,hi]using this
theorem MI.Mr(I:MI Pk σ aO pre lo fC par rk iJ)(h:∀s g n,iJ s->σ s=some (g,n)->n.full=true->big' s):MI Pk σ aO pre lo fC par rk big':=
 ⟨I.cQ,λs g n hs hl=>⟨(I.lf s g n hs hl).1,by
  rcases(I.lf s g n hs hl).2 with q|q;.exact .inl q
  .exact .inr ⟨h s g n q.1 hs (by unfold Mn.full;rw[hl,aw rfl];exact aM ah),q.2⟩⟩,λs g n hs hl=>⟨(I.nd s g n hs hl).1,(I.nd s g n hs hl).2.1,by
  rcases(I.nd s g n hs hl).2.2 with q|q;.exact .inl q
  .exact .inr ⟨h s g n q.1 hs (by unfold Mn.full;rw[hl,ak bL];exact aM ah),q.2⟩⟩,I.IA,I.tB,I.lQ,I.ao,I.next,I.rt,I.pl⟩
theorem MI.upd(I:MI Pk σ aO pre lo fC par rk iJ){s g:Nat}{n:Mn}{l:Lf}(hs:σ s=some (g,n))(hl:n.cQ=true)(hb:∀t,iJ t->t≠s->big' t)(R:l.R)(e1:l.bd=n.aE.bd)(e2:l.cR=n.aE.cR)(e3:l.next=n.aE.next)
 (hn:l.n<=6\/(big' s/\l.n=7)) (hm:∀i,i<l.n->¬pP (l.e i).m<lo s) (hx:∀i,i<l.n->xw Pk σ pre lo par s (l.e i)):
 MI Pk (up σ s (g,{n with aE:=l})) aO pre lo fC par rk big':=by
 have mR:({n with aE:=l}:Mn).mR=n.mR:=by unfold Mn.mR;rw[show({n with aE:=l}:Mn).cQ=n.cQ from rfl,hl,aw rfl,aw rfl];exact e1
 have hiT:({n with aE:=l}:Mn).gA=n.gA:=by unfold Mn.gA;rw[show({n with aE:=l}:Mn).cQ=n.cQ from rfl,hl,aw rfl,aw rfl,e2]
 generalize C0:({n with aE:=l}:Mn)=n' at mR hiT;have lw:n'.cQ=true:=by rw[<-C0];exact hl
 have lf:n'.aE=l:=by rw[<-C0]
 have get:∀t g1 m,up σ s (g,n') t=some (g1,m)->(t=s/\g1=g/\m=n')\/(t≠s/\σ t=some (g1,m)):=by
  intro t g1 m h;by_cases ht:t=s;.subst ht;rw[cO]at h;injection h with h;injection h with h1 h2;exact .inl ⟨rfl,h1.symm,h2.symm⟩
  .rw[cH ht]at h;exact .inr ⟨ht,h⟩
 have put:∀{t g1 m},σ t=some (g1,m)->∃m',up σ s (g,n') t=some (g1,m')/\m'.cQ=m.cQ/\m'.mR=m.mR/\m'.gA=m.gA:=by
  intro t g1 m h;by_cases ht:t=s
  .subst ht;rw[hs]at h;injection h with h;injection h with h1 h2;subst h1;subst h2
   exact⟨n',cO,by rw[lw,hl],mR,hiT⟩
  .exact⟨m,by rw[cH ht];exact h,rfl,rfl,rfl⟩
 have slk:∀{t:Nat} {x:Sl},xw Pk σ pre lo par t x->xw Pk (up σ s (g,n')) pre lo par t x:=λ{t x} h=>h.to rfl λhd=>⟨λm h1 h2=>by obtain⟨m',q1,_,q2,_⟩:=put h1;exact⟨m',q1,by rw[q2];exact h2⟩,rfl,rfl,(h.link hd).2.2.2⟩;refine⟨λt g1 m h=>?_,λt g1 m h hw=>?_,λt g1 m h hw=>?_,λt g1 m h=>?_,λt g1 m h nT=>?_,λt g1 m h hw i hi=>?_,λt g1 m h hw i hi=>?_,λt g1 m h hw nT=>?_,?_,λt g1 m h=>?_⟩
 .rcases get t g1 m h with⟨rfl,rfl,rfl⟩|⟨_,h⟩;.exact⟨λ_=>(I.cQ _ _ _ hs).1 hl,λ_=>lw⟩
  .exact I.cQ _ _ _ h
 .rcases get t g1 m h with⟨rfl,rfl,rfl⟩|⟨cx,h⟩;.rw[lf];exact⟨R,hn⟩
  .refine⟨(I.lf _ _ _ h hw).1,?_⟩;rcases(I.lf _ _ _ h hw).2 with q|q
   .exact .inl q
   .exact .inr ⟨hb _ q.1 cx,q.2⟩
 .rcases get t g1 m h with⟨rfl,rfl,rfl⟩|⟨cx,h⟩;.rw[lw]at hw;cases hw
  .refine⟨(I.nd _ _ _ h hw).1,(I.nd _ _ _ h hw).2.1,?_⟩;rcases(I.nd _ _ _ h hw).2.2 with q|q
   .exact .inl q
   .exact .inr ⟨hb _ q.1 cx,q.2⟩
 .rcases get t g1 m h with⟨rfl,rfl,rfl⟩|⟨_,h⟩;.intro k hk;unfold Mn.lx at hk;rw[lw,aw rfl,lf]at hk;obtain⟨i,hi,rfl⟩:=bu.1 hk;exact⟨hm i (eX.1 hi),λe=>by rw[lw]at e;cases e⟩
  .exact I.IA _ _ _ h
 .rcases get t g1 m h with⟨rfl,rfl,rfl⟩|⟨_,h⟩;.rw[hiT];exact I.tB _ _ _ hs (by rw[<-mR];exact nT)
  .exact I.tB _ _ _ h nT
 .rcases get t g1 m h with⟨rfl,rfl,rfl⟩|⟨_,h⟩;.rw[lw]at hw;cases hw
  .obtain⟨m',a1,a2,a3,a4,a5,a6,a7⟩:=I.lQ _ _ _ h hw i hi;obtain⟨m2,q1,_,q3,q4⟩:=put a1;exact⟨m2,q1,a2,a3,a4,a5,by rw[q3,a6],λhb=>by rw[q4];exact a7 (by rw[<-q3];exact hb)⟩
 .rcases get t g1 m h with⟨rfl,rfl,rfl⟩|⟨_,h⟩;.rw[lf]at hi⊢;exact slk (hx i hi)
  .exact slk (I.ao _ _ _ h hw i hi)
 .rcases get t g1 m h with⟨rfl,rfl,rfl⟩|⟨_,h⟩;.rw[lf]at nT⊢;obtain⟨m',a1,a2,a3,a4⟩:=I.next _ _ _ hs hl (by rw[<-e1];exact nT);obtain⟨m2,q1,q2,_⟩:=put a1;rw[e3];exact⟨m2,q1,by rw[q2,a2],a3,a4⟩
  .obtain⟨m',a1,a2,a3,a4⟩:=I.next _ _ _ h hw nT;obtain⟨m2,q1,q2,_⟩:=put a1;exact⟨m2,q1,by rw[q2,a2],a3,a4⟩
 .obtain⟨⟨m,a1,a2⟩,a3⟩:=I.rt;obtain⟨m2,q1,_,q3,_⟩:=put a1;exact⟨⟨m2,q1,by rw[q3,a2]⟩,a3⟩
 .rcases get t g1 m h with⟨rfl,rfl,rfl⟩|⟨_,h⟩;.exact I.pl _ _ _ hs
  .exact I.pl _ _ _ h
theorem MI.fresh(I:MI Pk σ aO pre lo fC par rk iJ){x:Hd}(hx:σ x.ao=none)(P:ba)(hP:∃i,P.length=8*i/\i<=2)(a:Nat):
 MI Pk (up σ x.ao (x.bk,iM)) aO (λt=>if t=x.ao then P else pre t) (λt=>if t=x.ao then[]else lo t) (λt=>if t=x.ao then 0 else fC t) (λt=>if t=x.ao then a else par t) rk iJ:=by
 have get:∀t g1 m,up σ x.ao (x.bk,iM) t=some (g1,m)->(t=x.ao/\g1=x.bk/\m=iM)\/(t≠x.ao/\σ t=some (g1,m)):=by
  intro t g1 m h;by_cases ht:t=x.ao;.subst ht;rw[cO]at h;injection h with h;injection h with h1 h2;exact .inl ⟨rfl,h1.symm,h2.symm⟩
  .rw[cH ht]at h;exact .inr ⟨ht,h⟩
 have ne:∀{t g1 m},σ t=some (g1,m)->t≠x.ao:=λ{t g1 m} h e=>by rw[e,hx]at h;cases h
 have put:∀{t g1 m},σ t=some (g1,m)->up σ x.ao (x.bk,iM) t=some (g1,m):=λ{t g1 m} h=>by rw[cH (ne h)];exact h
 refine⟨λt g1 m h=>?_,λt g1 m h hw=>?_,λt g1 m h hw=>?_,λt g1 m h=>?_,λt g1 m h nT=>?_,λt g1 m h hw i hi=>?_,λt g1 m h hw i hi=>?_,λt g1 m h hw nT=>?_,?_,λt g1 m h=>?_⟩
 all_goals try rcases get t g1 m h with⟨rfl,rfl,rfl⟩|⟨cx,h⟩
 .simp[iM]
 .simp only[ak cx];exact I.cQ _ _ _ h
 .exact⟨oJ,.inl bN⟩
 .exact I.lf _ _ _ h hw
 .cases hw
 .exact I.nd _ _ _ h hw
 .intro k hk;cases hk
 .simp only[ak cx];exact I.IA _ _ _ h
 .cases nT
 .simp only[ak cx];exact I.tB _ _ _ h nT
 .cases hw
 .obtain⟨m',a1,a2,a3,a4,a5,a6,a7⟩:=I.lQ _ _ _ h hw i hi;have nk:=ne a1;simp only[ak cx,ak nk];refine⟨m',put a1,a2,a3,a4,?_,a6,a7⟩;rw[a5];unfold jd;simp only[ak cx]
 .exact absurd hi (bW _)
 .refine(I.ao _ _ _ h hw i hi).to (ak cx) λhd=>?_;obtain⟨⟨m',a1,a2⟩,a3,a4,a5⟩:=(I.ao _ _ _ h hw i hi).link hd;have nk:=ne a1;exact⟨λn h1 h2=>⟨n,put h1,h2⟩,ak nk,ak nk,(ak nk).trans a5⟩
 .cases nT
 .obtain⟨m',a1,a2,a3,a4⟩:=I.next _ _ _ h hw nT;simp only[ak cx,ak (ne a1)];exact⟨m',put a1,a2,a3,a4⟩
 .obtain⟨⟨m,a1,a2⟩,a3⟩:=I.rt;simp only[ak (ne a1)];exact⟨⟨m,put a1,a2⟩,a3⟩
 .simp only[cz];exact hP
 .simp only[ak cx];exact I.pl _ _ _ h
def Qk(s:Hd):Nd:=⟨false,[],[],[s],[],false,⟨0,0⟩⟩
def ki(s:Hd):Mn:=⟨false,vG,Qk s⟩
theorem Qi(s:Hd):(Qk s).R:=⟨λi hi=>absurd hi (bW _),λi hi=>absurd hi (bW _),λ_=>rfl,(λh=>by cases h),λ_=>⟨rfl,rfl⟩,by show 0<60000;omega⟩
end
section
variable{Pk:ba->Prop}{σ:kS}{aO:Hd}{pre lo:Nat->ba}{fC par rk:Nat->Nat}{iJ:Nat->Prop}
theorem MI.grow(I:MI Pk σ aO pre lo fC par rk iJ){y head:Hd}{hn:Mn}(hy:σ y.ao=some (y.bk,iM))(hh:σ head.ao=some (head.bk,hn))(hb:hn.mR=false)(je:lo head.ao=[])(hly:lo y.ao=[])(EP:pre head.ao=pre y.ao)(cx:head.ao≠y.ao)
 (nk:∀t g m,σ t=some (g,m)->m.cQ=false->∀i,i<m.aN.bU.length->(m.aN.bU.getD i default).ao≠head.ao/\(m.aN.bU.getD i default).ao≠y.ao)
 (ns:∀t g m,σ t=some (g,m)->m.cQ=true->∀i,i<m.aE.n->(m.aE.e i).deep=true->(m.aE.e i).link.ao≠head.ao) (nr:aO.ao≠head.ao)
 (nn:∀t g m,σ t=some (g,m)->m.cQ=true->m.aE.bd=true->m.aE.next.ao≠y.ao):
 MI Pk (up σ y.ao (y.bk,ki head)) aO pre lo (λt=>if t=y.ao then fC head.ao+1 else fC t) (λt=>if t=head.ao then y.ao else par t) rk iJ:=by
 have get:∀t g1 m,up σ y.ao (y.bk,ki head) t=some (g1,m)->(t=y.ao/\g1=y.bk/\m=ki head)\/(t≠y.ao/\σ t=some (g1,m)):=by
  intro t g1 m h;by_cases ht:t=y.ao;.subst ht;rw[cO]at h;injection h with h;injection h with h1 h2;exact .inl ⟨rfl,h1.symm,h2.symm⟩
  .rw[cH ht]at h;exact .inr ⟨ht,h⟩
 have put:∀{t g1 m},t≠y.ao->σ t=some (g1,m)->up σ y.ao (y.bk,ki head) t=some (g1,m):=λ{t g1 m} hn h=>by rw[cH hn];exact h
 have bdy:∀{t g1 m},σ t=some (g1,m)->m.mR=false->∃m',up σ y.ao (y.bk,ki head) t=some (g1,m')/\m'.mR=false:=by
  intro t g1 m h hb;by_cases ht:t=y.ao
  .subst ht;rw[hy]at h;injection h with h;injection h with h1 _;subst h1
   exact⟨_,cO,rfl⟩
  .exact⟨m,put ht h,hb⟩
 refine⟨λt g1 m h=>?_,λt g1 m h hw=>?_,λt g1 m h hw=>?_,λt g1 m h=>?_,λt g1 m h nT=>?_,λt g1 m h hw i hi=>?_,λt g1 m h hw i hi=>?_,λt g1 m h hw nT=>?_,?_,λt g1 m h=>?_⟩
 all_goals try rcases get t g1 m h with⟨rfl,rfl,rfl⟩|⟨Db,h⟩
 .simp[ki]
 .simp only[ak Db];exact I.cQ _ _ _ h
 .cases hw
 .exact I.lf _ _ _ h hw
 .exact⟨Qi head,rfl,.inl (by show 0<=4;omega)⟩
 .exact I.nd _ _ _ h hw
 .intro k hk;cases hk
 .exact I.IA _ _ _ h
 .cases nT
 .exact I.tB _ _ _ h nT
 .have hi:i<1:=hi;have:i=0:=ah;subst this;show∃m,up σ y.ao (y.bk,ki head) head.ao=some (head.bk,m)/\_;refine⟨hn,put cx hh,?_,?_,?_,?_,?_,λgC=>by rw[hb]at gC;cases gC⟩;.show(if head.ao=y.ao then _ else _)+1=(if y.ao=y.ao then _ else _);rw[ak cx,aw rfl];rfl
  .exact EP
  .show(if head.ao=head.ao then y.ao else _)=y.ao;rw[aw rfl]
  .show lo head.ao=(if(0:Nat)=0 then lo y.ao else _);rw[aw rfl,je,hly]
  .rw[hb];rfl
 .obtain⟨m',a1,a2,a3,a4,a5,a6,a7⟩:=I.lQ _ _ _ h hw i hi;obtain⟨n1,n2⟩:=nk _ _ _ h hw i hi;refine⟨m',put n2 a1,?_,a3,?_,a5,a6,a7⟩;.simp only[ak Db,ak n2];exact a2
  .simp only[ak n1];exact a4
 .cases hw
 .refine(I.ao _ _ _ h hw i hi).to rfl λhd=>?_;have n1:=ns _ _ _ h hw i hi hd;exact⟨λn h1 h2=>bdy h1 h2,rfl,rfl,(ak n1).trans ((I.ao _ _ _ h hw i hi).link hd).2.2.2⟩
 .cases hw
 .obtain⟨m',a1,a2,a3,a4⟩:=I.next _ _ _ h hw nT;exact⟨m',put (nn _ _ _ h hw nT) a1,a2,a3,a4⟩
 .obtain⟨⟨m,a1,a2⟩,a3,a4,a5⟩:=I.rt;refine⟨bdy a1 a2,a3,a4,?_⟩;simp only[ak nr];exact a5
 .exact I.pl _ _ _ hy
 .exact I.pl _ _ _ h
theorem MI.acd(I:MI Pk σ aO pre lo fC par rk iJ){y:Hd}(h:(∃n,σ y.ao=some (y.bk,n)/\n.mR=false)/\lo y.ao=[]/\pre y.ao=[]/\par y.ao=y.ao):MI Pk σ y pre lo fC par rk iJ:=
 ⟨I.cQ,I.lf,I.nd,I.IA,I.tB,I.lQ,I.ao,I.next,h,I.pl⟩
theorem MI.Sx(I:MI Pk σ aO pre lo fC par rk iJ){s g:Nat}{n:Mn}(hs:σ s=some (g,n))(hl:n.cQ=true)(hi:i<n.aE.n)(hd:(n.aE.e i).deep=true):(nameOf (n.aE.e i).m).length=8:=by have:=(((I.lf _ _ _ hs hl).1.r i hi).d hd).1;unfold nameOf;rw[ax];omega
theorem MI.Q1(I:MI Pk σ aO pre lo fC par rk iJ){s g:Nat}{n:Mn}(hs:σ s=some (g,n))(hl:n.cQ=false)(hi:i<n.aN.bU.length):(n.aN.bU.getD i default).ao≠s:=λe=>by obtain⟨_,_,a2,_⟩:=I.lQ _ _ _ hs hl i hi;rw[e]at a2;omega
theorem MI.abk(I:MI Pk σ aO pre lo fC par rk iJ){s g:Nat}{n:Mn}(hs:σ s=some (g,n))(hl:n.cQ=true)(hi:i<n.aE.n)(hd:(n.aE.e i).deep=true):(n.aE.e i).link.ao≠s:=λe=>by have a:=((I.ao _ _ _ hs hl i hi).link hd).2.1;have b:=I.Sx hs hl hi hd;rw[e]at a;have:=fN List.length a;rw[aq]at this;omega
theorem MI.age(I:MI Pk σ aO pre lo fC par rk iJ){s g:Nat}{n:Mn}(hs:σ s=some (g,n))(hl:n.cQ=true)(hi:i<n.aE.n)(hj:j<n.aE.n)(di:(n.aE.e i).deep=true)(dj:(n.aE.e j).deep=true)(e:(n.aE.e i).link.ao=(n.aE.e j).link.ao):i=j:=by
 have R:=(I.lf _ _ _ hs hl).1;have a:=((I.ao _ _ _ hs hl i hi).link di).2.1;have b:=((I.ao _ _ _ hs hl j hj).link dj).2.1;rw[e,b]at a;have e':=List.append_cancel_left a;have em:=rW.link (R.r i hi).m (R.r j hj).m ((R.r i hi).d di).1 ((R.r j hj).d dj).1 e'.symm;rcases cI i j with h|h|h
 .have:=R.lt h hj;rw[em]at this;exact absurd this cw
 .exact h
 .have:=R.lt h hi;rw[em]at this;exact absurd this cw
theorem MI.TF(I:MI Pk σ aO pre lo fC par rk iJ){y:Hd}(hy:σ y.ao=none):
 ∃lH jn mT par',MI Pk (up σ y.ao (y.bk,ki aO)) y lH jn mT par' rk iJ/\∀t,t≠y.ao->lH t=pre t/\jn t=lo t/\mT t=fC t:=by
 obtain⟨⟨hn,r1,r2⟩,r3,r4,r5⟩:=I.rt;have ne:∀{t g1 m},σ t=some (g1,m)->t≠y.ao:=λ{t g1 m} h e=>by rw[e,hy]at h;cases h
 have hry:=ne r1;have F:=I.fresh hy [] ⟨0,rfl,ah⟩ y.ao;have F1:=F.acd (y:=y) ⟨⟨iM,cO,rfl⟩,aw rfl,aw rfl,aw rfl⟩;have get:∀{t g1 m},up σ y.ao (y.bk,iM) t=some (g1,m)->(t=y.ao/\m=iM)\/(t≠y.ao/\σ t=some (g1,m)):=by
  intro t g1 m h;by_cases ht:t=y.ao;.subst ht;rw[cO]at h;injection h with h;injection h with h1 h2;exact .inl ⟨rfl,h2.symm⟩
  .rw[cH ht]at h;exact .inr ⟨ht,h⟩
 have G:=F1.grow (head:=aO) (hn:=hn) cO (by rw[cH hry];exact r1) r2 (by simp only[ak hry];exact r3) (aw rfl) (by simp only[ak hry,cz];exact r4) hry
  (λt g m h hw i hi=>by
   rcases get h with⟨rfl,rfl⟩|⟨Db,h⟩;.cases hw
   .obtain⟨m',a1,a2,a3,a4,_⟩:=I.lQ _ _ _ h hw i hi;refine⟨λe=>?_,ne a1⟩;rw[e,r5]at a4;exact I.Q1 h hw hi (e.trans a4))
  (λt g m h hw i hi hd e=>by
   rcases get h with⟨rfl,rfl⟩|⟨Db,h⟩;.exact absurd hi (bW _)
   .have a4:=((I.ao _ _ _ h hw i hi).link hd).2.2.2;rw[e,r5]at a4;exact I.abk h hw hi hd (e.trans a4))
  hry.symm
  (λt g m h hw hb=>by
   rcases get h with⟨rfl,rfl⟩|⟨Db,h⟩;.cases hb
   .obtain⟨m',a1,_⟩:=I.next _ _ _ h hw hb;exact ne a1)
 have e:up (up σ y.ao (y.bk,iM)) y.ao (y.bk,ki aO)=up σ y.ao (y.bk,ki aO):=by funext t;unfold up;split<;>rfl
 rw[e]at G;exact⟨_,_,_,_,G,λt ht=>⟨ak ht,ak ht,(ak ht).trans (ak ht)⟩⟩
theorem MI.Qm(I:MI Pk σ aO pre lo fC par rk iJ){y head:Hd}(hy:σ y.ao=none){a ga q:Nat}{na:Mn}(ha:σ a=some (ga,na))(la:na.cQ=true)(hq:q<na.aE.n)(hd:(na.aE.e q).deep=true)(hh:(na.aE.e q).link=head):
 ∃lH jn mT par',MI Pk (up (up σ y.ao (y.bk,ki head)) a (ga,{na with aE:=na.aE.upd q ⟨(na.aE.e q).m,[],[],true,y⟩})) aO lH jn mT par' rk iJ/\∀t,t≠y.ao->lH t=pre t/\jn t=lo t/\mT t=fC t:=by
 have ne:∀{t g1 m},σ t=some (g1,m)->t≠y.ao:=λ{t g1 m} h e=>by rw[e,hy]at h;cases h
 obtain⟨⟨hn,r1,r2⟩,r3,r4,r5⟩:=(I.ao _ _ _ ha la q hq).link hd;rw[hh]at r1 r3 r4 r5;have UW:=ne ha;have hhy:=ne r1;have hha:head.ao≠a:=by have:=I.abk ha la hq hd;rw[hh]at this;exact this
 have hR:=(I.lf _ _ _ ha la).1;have aod:=hR.n;have KP:=hR.r q hq;have hsR:Sl.R ⟨(na.aE.e q).m,[],[],true,y⟩:=⟨KP.m,λ_=>⟨(KP.d hd).1,rfl,rfl⟩,(λh=>by cases h)⟩;have F:=I.fresh hy (pre head.ao) (I.pl _ _ _ r1) a;have ue:∀{j},j<15->(na.aE.upd q ⟨(na.aE.e q).m,[],[],true,y⟩).e j=if j=q then⟨(na.aE.e q).m,[],[],true,y⟩else na.aE.e j:=λ{j} hj=>Dx hR ah _ hj
 have F1:=F.upd (l:=na.aE.upd q ⟨(na.aE.e q).m,[],[],true,y⟩) (big':=iJ) (by rw[cH UW];exact ha) la (λt h _=>h) (hR.upd hq hsR rfl) rfl rfl rfl (I.lf _ _ _ ha la).2
  (λi hi=>by
   have hi:i<na.aE.n:=hi;simp only[ak UW];have k:=λj (hj:j<na.aE.n)=>(I.IA _ _ _ ha (pP (na.aE.e j).m) (by unfold Mn.lx;rw[la,aw rfl];exact bu.2 ⟨j,eX.2 hj,rfl⟩)).1;rw[ue ah];split;.exact k q hq
   .exact k i hi)
  (λi hi=>by
   have hi:i<na.aE.n:=hi;rw[ue ah];split;.refine⟨(λh=>by cases h),λ_=>⟨⟨iM,cO,rfl⟩,?_,aw rfl,aw rfl⟩⟩;simp only[cz,ak UW];exact r3
   .exact F.ao _ _ _ (by rw[cH UW];exact ha) la i hi)
 have get:∀{t g1 m},up (up σ y.ao (y.bk,iM)) a (ga,{na with aE:=na.aE.upd q ⟨(na.aE.e q).m,[],[],true,y⟩}) t=some (g1,m)->(t=y.ao/\m=iM)\/(t=a/\m={na with aE:=na.aE.upd q ⟨(na.aE.e q).m,[],[],true,y⟩})\/(t≠y.ao/\t≠a/\σ t=some (g1,m)):=by
  intro t g1 m h;by_cases h2:t=a;.subst h2;rw[cO]at h;injection h with h;injection h with h1 h2;exact .inr (.inl ⟨rfl,h2.symm⟩)
  rw[cH h2]at h;by_cases ht:t=y.ao;.subst ht;rw[cO]at h;injection h with h;injection h with h1 h2;exact .inl ⟨rfl,h2.symm⟩
  .rw[cH ht]at h;exact .inr (.inr ⟨ht,h2,h⟩)
 have G:=F1.grow (y:=y) (head:=head) (hn:=hn) (by rw[cH UW.symm,cO]) (by rw[cH hha,cH hhy];exact r1) r2 (by simp only[ak hhy];exact r4) (aw rfl) (by simp only[ak hhy,cz]) hhy
  (λt g m h hw i hi=>by
   rcases get h with⟨rfl,rfl⟩|⟨rfl,rfl⟩|⟨h1,h2,h⟩;.cases hw
   .rw[show na.cQ=false from hw]at la;cases la
   .obtain⟨m',a1,a2,a3,a4,_⟩:=I.lQ _ _ _ h hw i hi;refine⟨λe=>?_,ne a1⟩;rw[e,r5]at a4;exact h2 a4.symm)
  (λt g m h hw i hi hdi e=>by
   rcases get h with⟨rfl,rfl⟩|⟨rfl,rfl⟩|⟨h1,h2,h⟩;.exact absurd hi (bW _)
   .have hi:i<na.aE.n:=hi;have hdi:((na.aE.upd q ⟨(na.aE.e q).m,[],[],true,y⟩).e i).deep=true:=hdi;have e:((na.aE.upd q ⟨(na.aE.e q).m,[],[],true,y⟩).e i).link.ao=head.ao:=e;rw[ue ah]at hdi e;by_cases hiq:i=q;.rw[aw hiq]at e;exact hhy e.symm
    .rw[ak hiq]at hdi e;exact hiq (I.age ha la hi hq hdi hd (by rw[e,hh]))
   .have a4:=((I.ao _ _ _ h hw i hi).link hdi).2.2.2;rw[e,r5]at a4;exact h2 a4.symm)
  (λe=>by have:=I.rt.2.2.2;rw[e,r5]at this;exact hha this.symm)
  (λt g m h hw hb=>by
   rcases get h with⟨rfl,rfl⟩|⟨rfl,rfl⟩|⟨h1,h2,h⟩;.cases hb
   .obtain⟨m',a1,_⟩:=I.next _ _ _ ha la hb;exact ne a1
   .obtain⟨m',a1,_⟩:=I.next _ _ _ h hw hb;exact ne a1)
 have e:up (up (up σ y.ao (y.bk,iM)) a (ga,{na with aE:=na.aE.upd q ⟨(na.aE.e q).m,[],[],true,y⟩})) y.ao (y.bk,ki head)=up (up σ y.ao (y.bk,ki head)) a (ga,{na with aE:=na.aE.upd q ⟨(na.aE.e q).m,[],[],true,y⟩}):=by
  funext t
  unfold up;by_cases h1:t=y.ao;.rw[aw h1,ak (by rw[h1];exact UW.symm),aw h1]
  .rw[ak h1,ak h1];split<;>rfl
 rw[e]at G;exact⟨_,_,_,_,G,λt ht=>⟨ak ht,ak ht,(ak ht).trans (ak ht)⟩⟩
end
structure Hv(A:ba)(n nl nr:Mn)(sep:ba)(x:Hd):Prop where
 ll:nl.cQ=n.cQ
 rl:nr.cQ=n.cQ
 lR:n.cQ=true->nl.aE.R/\nl.aE.n<=3
 rR:n.cQ=true->nr.aE.R/\nr.aE.n<=6
 lI:n.cQ=false->nl.aN.R/\nl.aN.aE=false/\nl.aN.aJ.length<=4/\nl.aN.bU.length<=3
 rI:n.cQ=false->nr.aN.R/\nr.aN.aE=false/\nr.aN.aJ.length<=4
 lk:∀k∈nl.lx,k∈n.lx
 rk:∀k∈nr.lx,¬k<sep/\(n.cQ=false->sep<k)
 lh:nl.mR=true/\nl.gA=sep
 rh:nr.mR=n.mR/\nr.gA=n.gA
 md:A<sep/\(n.mR=true->sep<n.gA)
 akP:n.cQ=false->∀j,j<nl.aN.bU.length->j<n.aN.bU.length/\nl.aN.bU.getD j default=n.aN.bU.getD j default/\(∀lo s,jd lo s nl.aN j=jd lo s n.aN j)/\kK nl.aN j=kK n.aN j/\(kK n.aN j=true->lO nl.aN j=lO n.aN j)
 ad5:n.cQ=false->∀j,j<nr.aN.bU.length->3+j<n.aN.bU.length/\nr.aN.bU.getD j default=n.aN.bU.getD (3+j) default/\(∀lo jn s x,jn x=sep->jd jn x nr.aN j=jd lo s n.aN (3+j))/\kK nr.aN j=kK n.aN (3+j)/\(kK n.aN (3+j)=true->lO nr.aN j=lO n.aN (3+j))
 lsl:n.cQ=true->∀j,j<nl.aE.n->j<n.aE.n/\nl.aE.e j=n.aE.e j
 rsl:n.cQ=true->∀j,j<nr.aE.n->3+j<n.aE.n/\nr.aE.e j=n.aE.e (3+j)
 nx:n.cQ=true->nl.aE.next=x/\nr.aE.next=n.aE.next
section
variable{Pk:ba->Prop}{σ:kS}{aO:Hd}{pre lo:Nat->ba}{fC par rk:Nat->Nat}{iJ:Nat->Prop}
open Classical in
theorem MI.split{s g u gu i:Nat}{n nu nl nr:Mn}{x:Hd}{sep:ba}(I:MI Pk σ aO pre lo fC par rk (· =s))(hs:σ s=some (g,n))(H:Hv (lo s) n nl nr sep x)(hx:σ x.ao=none)(hu:σ u=some (gu,nu))(ul:nu.cQ=false)
 (hi:i<nu.aN.bU.length) (hk:nu.aN.bU.getD i default=⟨s,g⟩) (hr:aO.ao≠s):
 nu.aN.dI sep=true/\nu.aN.has sep=false/\∃lH jn mT par' UA,MI Pk (up (up (up σ s (g,nl)) x.ao (x.bk,nr)) u (gu,{nu with aN:=nu.aN.add sep x})) aO lH jn mT par' UA (· =u)/\∀t,t≠x.ao->lH t=pre t/\jn t=lo t/\mT t=fC t:=by
 obtain⟨yG,ulf,hul⟩:=I.nd _ _ _ hu ul;obtain⟨m,k1,k2,kp,KQ,k3,k4,k5⟩:=I.lQ _ _ _ hu ul i hi;rw[hk]at k1 k2 k3 kp KQ;rw[show σ (Hd.mk s g).ao=σ s from rfl,hs]at k1;injection k1 with k1;injection k1 with _ k1;subst k1;replace k2:fC s+1=fC u:=k2;replace k3:lo s=jd lo u nu.aN i:=k3;replace kp:pre s=pre u:=kp;replace KQ:par s=u:=KQ;have hsu:s≠u:=λe=>by rw[e]at k2;omega
 have ko:x.ao≠s:=λe=>by rw[e,hs]at hx;cases hx
 have vz:x.ao≠u:=λe=>by rw[e,hu]at hx;cases hx
 have lu:∀i,i<nu.aN.aJ.length->lo u<nu.aN.aJ.getD i []:=λi hi=>(I.IA _ _ _ hu _ (by unfold Mn.lx;rw[ul,ak bL,az,aF hi];exact bS hi)).2 ul;have ukl:=(yG.nd ulf).2;have iu:i<=nu.aN.aJ.length:=ah;have adE:nu.aN.aJ.length<=4:=by
  rcases hul with h|h;.exact h
  .exact absurd h.1.symm hsu
 have f1:=H.md.1;have f2:=H.md.2;have f3:¬lo s<lo u:=by rw[k3];exact AB yG lu iu
 have f4:lo u<sep:=kG f3 f1;have sM:place nu.aN.aJ sep=i:=by
  refine AQ _ _ _ iu (λj hj=>?_) (λh=>?_)
  .have e:lo s=nu.aN.aJ.getD (i-1) []:=by rw[k3];unfold jd;rw[ak ah]
   rcases bg j (i-1)with h|h;.exact dZ (yG.lt h ah) (by rw[<-e];exact f1)
   .have:j=i-1:=ah;rw[this,<-e];exact f1
  .have eb:n.mR=true:=by rw[k4];unfold kK;rw[aw h]
   have e:n.gA=nu.aN.aJ.getD i []:=by rw[k5 eb];unfold lO;rw[aw h]
   rw[<-e];exact cX (f2 eb)
 have nh:nu.aN.dI sep=true:=bC.fZ.2 (Al yG (i:=i) λh=>by have eb:n.mR=true:=k4.trans h;rw[<-k5 eb];exact f2 eb);have Hg:nu.aN.has sep=false:=by
  unfold Nd.has;rw[sM];by_cases h:i<nu.aN.aJ.length
  .have eb:n.mR=true:=by rw[k4];unfold kK;rw[aw h]
   have e:n.gA=nu.aN.aJ.getD i []:=by rw[k5 eb];unfold lO;rw[aw h]
   have:¬nu.aN.aJ.getD i []=sep:=λq=>by rw[<-e]at q;exact cw (q▸f2 eb)
   rw[aU this,Bool.and_false]
  .rw[aU h,oc]
 refine⟨nh,Hg,?_⟩;obtain⟨Nr,aaQ⟩:∃Nr:Mn,Nr={nu with aN:=nu.aN.add sep x}:=⟨_,rfl⟩;have ul':Nr.cQ=false:=by rw[aaQ];exact ul
 have ein:Nr.aN=nu.aN.add sep x:=by rw[aaQ]
 have nA:(nu.aN.add sep x).aJ=ins nu.aN.aJ i sep:=by show ins nu.aN.aJ (place nu.aN.aJ sep) sep=_;rw[sM]
 have H9:(nu.aN.add sep x).bU=ins nu.aN.bU (i+1) x:=by show ins nu.aN.bU (place nu.aN.aJ sep+1) x=_;rw[sM]
 have mQ:(nu.aN.add sep x).aJ.length=nu.aN.aJ.length+1:=by rw[nA,lC iu]
 have TW:(nu.aN.add sep x).bU.length=nu.aN.bU.length+1:=by rw[H9,lC ah]
 have ubd:Nr.mR=nu.mR:=by unfold Mn.mR;rw[ul',ul,ak bL,ak bL,ein];rfl
 have uhi:Nr.gA=nu.gA:=by unfold Mn.gA;rw[ul',ul,ak bL,ak bL,ein];rfl
 rw[<-aaQ];clear aaQ
 let mv:Nat->Prop:=λt=>(n.cQ=false/\∃j,j<nr.aN.bU.length/\(nr.aN.bU.getD j default).ao=t)\/(n.cQ=true/\∃j,j<nr.aE.n/\(nr.aE.e j).deep=true/\(nr.aE.e j).link.ao=t)
 have mvp:∀{t},mv t->par t=s/\t≠x.ao:=by
  rintro t (⟨hl,j,hj,rfl⟩|⟨hl,j,hj,hd,rfl⟩);.obtain⟨q1,q2,_⟩:=H.ad5 hl j hj;obtain⟨m',a1,a2,a3,a4,_⟩:=I.lQ _ _ _ hs hl _ q1;rw[q2];exact⟨a4,λe=>by rw[e,hx]at a1;cases a1⟩
  .obtain⟨q1,q2⟩:=H.rsl hl j hj;rw[q2]at hd⊢;obtain⟨⟨m',a1,_⟩,_,_,a4⟩:=(I.ao _ _ _ hs hl _ q1).link hd;exact⟨a4,λe=>by rw[e,hx]at a1;cases a1⟩
 let lH:Nat->ba:=λt=>if t=x.ao then pre s else pre t
 let jn:Nat->ba:=λt=>if t=x.ao then sep else lo t
 let mT:Nat->Nat:=λt=>if t=x.ao then fC s else fC t
 let par':Nat->Nat:=λt=>if t=x.ao then u else if mv t then x.ao else par t
 let UA:Nat->Nat:=λt=>if t=x.ao then 2*rk s else 2*rk t+1
 have prx:lH x.ao=pre s:=aw rfl;have lox:jn x.ao=sep:=aw rfl;have lvx:mT x.ao=fC s:=aw rfl;have pax:par' x.ao=u:=aw rfl;have rkx:UA x.ao=2*rk s:=aw rfl;have Ae:∀{t},t≠x.ao->lH t=pre t:=λ{t} h=>ak h;have Gj:∀{t},t≠x.ao->jn t=lo t:=λ{t} h=>ak h;have IM:∀{t},t≠x.ao->mT t=fC t:=λ{t} h=>ak h;have rko:∀{t},t≠x.ao->UA t=2*rk t+1:=λ{t} h=>ak h;have pao:∀{t},t≠x.ao->par t≠s->par' t=par t:=λ{t} h h'=>by show(if t=x.ao then u else if mv t then x.ao else par t)=_;rw[ak h,ak (λq=>h' (mvp q).1)]
 have pan:∀{t},t≠x.ao->¬mv t->par' t=par t:=λ{t} h h'=>by show(if t=x.ao then u else if mv t then x.ao else par t)=_;rw[ak h,ak h']
 have pam:∀{t},mv t->par' t=x.ao:=λ{t} h=>by show(if t=x.ao then u else if mv t then x.ao else par t)=_;rw[ak (mvp h).2,aw h]
 refine⟨lH,jn,mT,par',UA,?_,λt ht=>⟨Ae ht,Gj ht,IM ht⟩⟩
 clear_value lH jn mT par' UA
 have old:∀{t g1 m},σ t=some (g1,m)->t≠x.ao:=λh e=>by rw[e,hx]at h;cases h
 have gu':up (up (up σ s (g,nl)) x.ao (x.bk,nr)) u (gu,Nr) u=some (gu,Nr):=cO;have Mv:up (up (up σ s (g,nl)) x.ao (x.bk,nr)) u (gu,Nr) x.ao=some (x.bk,nr):=by rw[cH vz,cO]
 have CZ:up (up (up σ s (g,nl)) x.ao (x.bk,nr)) u (gu,Nr) s=some (g,nl):=by rw[cH hsu,cH ko.symm,cO]
 have go':∀t,t≠u->t≠x.ao->t≠s->up (up (up σ s (g,nl)) x.ao (x.bk,nr)) u (gu,Nr) t=σ t:=λt h1 h2 h3=>by rw[cH h1,cH h2,cH h3]
 generalize hσ':up (up (up σ s (g,nl)) x.ao (x.bk,nr)) u (gu,Nr)=σ' at gu' Mv CZ go';clear hσ';have get:∀{t g1 m},σ' t=some (g1,m)->(t=u/\g1=gu/\m=Nr)\/(t=x.ao/\g1=x.bk/\m=nr)\/(t=s/\g1=g/\m=nl)\/((t≠u/\t≠x.ao/\t≠s)/\σ t=some (g1,m)):=by
  intro t g1 m h;by_cases h1:t=u;.subst h1;rw[gu']at h;injection h with h;injection h with q1 q2;exact .inl ⟨rfl,q1.symm,q2.symm⟩
  by_cases h2:t=x.ao;.subst h2;rw[Mv]at h;injection h with h;injection h with q1 q2;exact .inr (.inl ⟨rfl,q1.symm,q2.symm⟩)
  by_cases h3:t=s;.subst h3;rw[CZ]at h;injection h with h;injection h with q1 q2;exact .inr (.inr (.inl ⟨rfl,q1.symm,q2.symm⟩))
  .rw[go' t h1 h2 h3]at h;exact .inr (.inr (.inr ⟨⟨h1,h2,h3⟩,h⟩))
 have put:∀{t g1 m},σ t=some (g1,m)->∃m',σ' t=some (g1,m')/\(t≠s->m'.mR=m.mR/\m'.gA=m.gA)/\m'.cQ=m.cQ:=by
  intro t g1 m h;by_cases h1:t=u
  .subst h1;rw[hu]at h;injection h with h;injection h with q1 q2;subst q1;subst q2
   exact⟨_,gu',λ_=>⟨ubd,uhi⟩,by rw[ul',ul]⟩
  by_cases h3:t=s
  .subst h3;rw[hs]at h;injection h with h;injection h with q1 q2;subst q1;subst q2
   exact⟨_,CZ,λq=>absurd rfl q,H.ll⟩
  .exact⟨m,by rw[go' t h1 (old h) h3];exact h,λ_=>⟨rfl,rfl⟩,rfl⟩
 have sNl:∀{t g1 m},σ t=some (g1,m)->m.cQ=true->∀i,i<m.aE.n->(m.aE.e i).deep=true->(m.aE.e i).link.ao≠s:=λ{t g1 m} h hw i hi hd e=>by
  have a4:=((I.ao _ _ _ h hw i hi).link hd).2.2.2;rw[e,KQ]at a4;subst a4;rw[hu]at h;injection h with h;injection h with _ h;subst h
  rw[ul]at hw;cases hw
 have slk:∀{t t':Nat} {z:Sl},xw Pk σ pre lo par t z->lH t'=pre t->(z.deep=true->z.link.ao≠s/\par' z.link.ao=t')->xw Pk σ' lH jn par' t' z:=λ{t t' z} h hp hz=>h.to hp λhd=>by obtain⟨⟨m',a1,a2⟩,a3,a4,a5⟩:=h.link hd;obtain⟨b1,b2⟩:=hz hd;refine⟨λm h1 h2=>?_,Ae (old a1),Gj (old a1),b2⟩;obtain⟨m2,p1,p2,_⟩:=put h1;exact⟨m2,p1,by rw[(p2 b1).1,h2]⟩
 have ls:∀k∈n.lx,¬k<lo s/\(n.cQ=false->lo s<k):=I.IA _ _ _ hs;refine⟨λt g1 m h=>?_,λt g1 m h hw=>?_,λt g1 m h hw=>?_,λt g1 m h=>?_,λt g1 m h nT=>?_,λt g1 m h hw j hj=>?_,λt g1 m h hw j hj=>?_,λt g1 m h hw nT=>?_,?_,λt g1 m h=>?_⟩
 .rcases get h with⟨rfl,rfl,rfl⟩|⟨rfl,rfl,rfl⟩|⟨rfl,rfl,rfl⟩|⟨cx,h⟩;.rw[IM vz.symm,ul',<-ul];exact I.cQ _ _ _ hu
  .rw[lvx,H.rl];exact I.cQ _ _ _ hs
  .rw[IM ko.symm,H.ll];exact I.cQ _ _ _ hs
  .rw[IM cx.2.1];exact I.cQ _ _ _ h
 .rcases get h with⟨rfl,rfl,rfl⟩|⟨rfl,rfl,rfl⟩|⟨rfl,rfl,rfl⟩|⟨cx,h⟩;.rw[ul']at hw;cases hw
  .have:=H.rR (by rw[<-H.rl];exact hw);exact⟨this.1,.inl this.2⟩
  .have:=H.lR (by rw[<-H.ll];exact hw);exact⟨this.1,.inl ah⟩
  .refine⟨(I.lf _ _ _ h hw).1,?_⟩;rcases(I.lf _ _ _ h hw).2 with q|q
   .exact .inl q
   .exact absurd q.1 cx.2.2
 .rcases get h with⟨rfl,rfl,rfl⟩|⟨rfl,rfl,rfl⟩|⟨rfl,rfl,rfl⟩|⟨cx,h⟩
  .rw[ein];refine⟨yG.add ulf adE nh Hg x,ulf,?_⟩;rw[mQ];rcases bg nu.aN.aJ.length 4 with h|h
   .exact .inl ah
   .exact .inr ⟨rfl,ah⟩
  .have:=H.rI (by rw[<-H.rl];exact hw);exact⟨this.1,this.2.1,.inl this.2.2⟩
  .have:=H.lI (by rw[<-H.ll];exact hw);exact⟨this.1,this.2.1,.inl this.2.2.1⟩
  .refine⟨(I.nd _ _ _ h hw).1,(I.nd _ _ _ h hw).2.1,?_⟩;rcases(I.nd _ _ _ h hw).2.2 with q|q
   .exact .inl q
   .exact absurd q.1 cx.2.2
 .rcases get h with⟨rfl,rfl,rfl⟩|⟨rfl,rfl,rfl⟩|⟨rfl,rfl,rfl⟩|⟨cx,h⟩
  .intro k hk;unfold Mn.lx at hk;rw[ul',ak bL,ein,nA]at hk;rw[Gj vz.symm];have:lo t<k:=by
    unfold ins at hk;have mem:∀{q},q∈nu.aN.aJ->lo t<q:=λhq=>(I.IA _ _ _ hu _ (by unfold Mn.lx;rw[ul,ak bL];exact hq)).2 ul
    rcases bp.1 hk with hk|hk;.exact mem (ef hk)
    .rcases bE.1 hk with hk|hk;.rw[hk];exact f4
     .exact mem (ir hk)
   exact⟨cX this,λ_=>this⟩
  .intro k hk;rw[lox];obtain⟨q1,q2⟩:=H.rk k hk;exact⟨q1,λh=>q2 (by rw[<-H.rl];exact h)⟩
  .intro k hk;rw[Gj ko.symm];obtain⟨q1,q2⟩:=ls k (H.lk k hk);exact⟨q1,λh=>q2 (by rw[<-H.ll];exact h)⟩
  .rw[Gj cx.2.1];exact I.IA _ _ _ h
 .rcases get h with⟨rfl,rfl,rfl⟩|⟨rfl,rfl,rfl⟩|⟨rfl,rfl,rfl⟩|⟨cx,h⟩;.rw[Gj vz.symm,uhi];exact I.tB _ _ _ hu (by rw[<-ubd];exact nT)
  .rw[lox,H.rh.2];exact f2 (by rw[<-H.rh.1];exact nT)
  .rw[Gj ko.symm,H.lh.2];exact f1
  .rw[Gj cx.2.1];exact I.tB _ _ _ h nT
 .rcases get h with⟨rfl,rfl,rfl⟩|⟨rfl,rfl,rfl⟩|⟨rfl,rfl,rfl⟩|⟨cx,h⟩
  .rw[ein]at hj⊢;rw[TW]at hj;rw[H9];have kin:∀q,q<nu.aN.bU.length->q≠i->∃m',σ' (nu.aN.bU.getD q default).ao=some ((nu.aN.bU.getD q default).bk,m')/\(nu.aN.bU.getD q default).ao≠x.ao/\fC (nu.aN.bU.getD q default).ao+1=fC t/\pre (nu.aN.bU.getD q default).ao=pre t/\par' (nu.aN.bU.getD q default).ao=t/\
    lo (nu.aN.bU.getD q default).ao=jd lo t nu.aN q/\m'.mR=kK nu.aN q/\(m'.mR=true->m'.gA=lO nu.aN q):=by
    intro q hq hqi;obtain⟨m',h1,h2,hp,C6,h3,h4,h5⟩:=I.lQ _ _ _ hu ul q hq;have cx:(nu.aN.bU.getD q default).ao≠s:=λe=>by rw[e,k3]at h3;exact hqi (Bz yG lu iu ah h3).symm
    obtain⟨m2,p1,p2,_⟩:=put h1;refine⟨m2,p1,old h1,h2,hp,?_,h3,by rw[(p2 cx).1,h4],λhb=>by rw[(p2 cx).2];exact h5 (by rw[<-(p2 cx).1];exact hb)⟩;rw[pao (old h1) (by rw[C6];exact hsu.symm)];exact C6
   rcases cI j (i+1)with q|q|q
   .rw[me q ah];have eL:jd jn t (nu.aN.add sep x) j=jd lo t nu.aN j:=by
     unfold jd;rw[Gj vz.symm,nA];split;.rfl
     .rw[me ah iu]
    by_cases hji:j=i
    .subst hji;rw[hk];refine⟨nl,CZ,?_,?_,?_,?_,?_,λ_=>?_⟩;.rw[IM ko.symm,IM vz.symm];exact k2
     .rw[Ae ko.symm,Ae vz.symm];exact kp
     .rw[pao ko.symm (by rw[KQ];exact hsu.symm)];exact KQ
     .rw[Gj ko.symm,eL];exact k3
     .unfold kK;rw[aw (by rw[mQ];omega)];exact H.lh.1
     .unfold lO;rw[aw (by rw[mQ];omega),nA,mF iu];exact H.lh.2
    .obtain⟨m',p1,p2,p3,pp,ppar,p4,p5,p6⟩:=kin j ah hji;refine⟨m',p1,?_,?_,?_,?_,?_,λhb=>?_⟩;.rw[IM p2,IM vz.symm,p3]
     .rw[Ae p2,Ae vz.symm,pp]
     .exact ppar
     .rw[Gj p2,eL,p4]
     .rw[p5];unfold kK;rw[aw ah,aw (by rw[mQ];omega)]
     .rw[p6 hb];unfold lO;rw[aw ah,aw (by rw[mQ];omega),nA,me ah iu]
   .subst q;rw[mF ah];refine⟨nr,Mv,?_,?_,?_,?_,?_,λhb=>?_⟩;.rw[lvx,IM vz.symm];exact k2
    .rw[prx,Ae vz.symm];exact kp
    .exact pax
    .rw[lox];unfold jd;rw[ak ah,nA,fv,mF iu]
    .rw[H.rh.1,k4];unfold kK;rw[mQ];by_cases h:i<nu.aN.aJ.length;.rw[aw h,aw ah]
     .rw[ak h,ak ah];rfl
    .rw[H.rh.2,k5 (by rw[<-H.rh.1];exact hb)];unfold lO;rw[mQ];by_cases h:i<nu.aN.aJ.length;.rw[aw h,aw ah,nA,kH ah iu,fv]
     .rw[ak h,ak ah];rfl
   .rw[kH q ah];obtain⟨m',p1,p2,p3,pp,ppar,p4,p5,p6⟩:=kin (j-1) ah ah;refine⟨m',p1,?_,?_,?_,?_,?_,λhb=>?_⟩;.rw[IM p2,IM vz.symm,p3]
    .rw[Ae p2,Ae vz.symm,pp]
    .exact ppar
    .rw[Gj p2,p4];unfold jd;rw[ak ah,ak ah,nA,kH ah iu]
    .rw[p5];unfold kK;rw[mQ];by_cases h:j-1<nu.aN.aJ.length;.rw[aw h,aw ah]
     .rw[ak h,ak ah];rfl
    .rw[p6 hb];unfold lO;rw[mQ];by_cases h:j-1<nu.aN.aJ.length;.rw[aw h,aw ah,nA,kH ah iu]
     .rw[ak h,ak ah];rfl
  .have hl:n.cQ=false:=by rw[<-H.rl];exact hw
   obtain⟨q1,q2,q3,q4,q5⟩:=H.ad5 hl j hj;obtain⟨m',h1,h2,hp,C6,h3,h4,h5⟩:=I.lQ _ _ _ hs hl _ q1;have O5:mv (n.aN.bU.getD (3+j) default).ao:= .inl ⟨hl,j,hj,by rw[q2]⟩;have cx:(n.aN.bU.getD (3+j) default).ao≠s:=I.Q1 hs hl q1;obtain⟨m2,p1,p2,_⟩:=put h1;rw[q2];refine⟨m2,p1,?_,?_,pam O5,?_,?_,λhb=>?_⟩;.rw[IM (old h1),lvx];exact h2
   .rw[Ae (old h1),prx];exact hp
   .rw[Gj (old h1),h3];exact(q3 lo jn s x.ao lox).symm
   .rw[(p2 cx).1,h4];exact q4.symm
   .have gC:m'.mR=true:=by rw[<-(p2 cx).1];exact hb
    rw[(p2 cx).2,h5 gC];exact(q5 (by rw[<-h4];exact gC)).symm
  .have hl:n.cQ=false:=by rw[<-H.ll];exact hw
   obtain⟨q1,q2,q3,q4,q5⟩:=H.akP hl j hj;obtain⟨m',h1,h2,hp,C6,h3,h4,h5⟩:=I.lQ _ _ _ hs hl _ q1;have ri:=(I.nd _ _ _ hs hl).1;have nlf:=(I.nd _ _ _ hs hl).2.1;have nkl:=(ri.nd nlf).2;have ln:∀i,i<n.aN.aJ.length->lo t<n.aN.aJ.getD i []:=λi hi=>(I.IA _ _ _ hs _ (by unfold Mn.lx;rw[hl,ak bL,az,aF hi];exact bS hi)).2 hl;have j3:j<3:=aP hj (H.lI hl).2.2.2;have O5:¬mv (n.aN.bU.getD j default).ao:=by
    rintro(⟨_,j',hj',e⟩|⟨oh,_⟩);.obtain⟨r1,r2,_⟩:=H.ad5 hl j' hj';obtain⟨_,_,_,_,_,x8,_⟩:=I.lQ _ _ _ hs hl _ r1;rw[r2]at e;rw[e,h3]at x8;have:=Bz ri ln ah ah x8;omega
    .rw[hl]at oh;cases oh
   have cx:(n.aN.bU.getD j default).ao≠t:=I.Q1 hs hl q1;obtain⟨m2,p1,p2,_⟩:=put h1;rw[q2];refine⟨m2,p1,?_,?_,?_,?_,?_,λhb=>?_⟩;.rw[IM (old h1),IM ko.symm];exact h2
   .rw[Ae (old h1),Ae ko.symm];exact hp
   .rw[pan (old h1) O5];exact C6
   .rw[Gj (old h1),h3,q3];unfold jd;rw[Gj ko.symm]
   .rw[(p2 cx).1,h4];exact q4.symm
   .have gC:m'.mR=true:=by rw[<-(p2 cx).1];exact hb
    rw[(p2 cx).2,h5 gC];exact(q5 (by rw[<-h4];exact gC)).symm
  .obtain⟨m',h1,h2,hp,C6,h3,h4,h5⟩:=I.lQ _ _ _ h hw j hj;have US:(m.aN.bU.getD j default).ao≠s:=λe=>by rw[e,KQ]at C6;exact cx.1 C6.symm
   obtain⟨m2,p1,p2,_⟩:=put h1;refine⟨m2,p1,?_,?_,?_,?_,by rw[(p2 US).1,h4],λhb=>by rw[(p2 US).2];exact h5 (by rw[<-(p2 US).1];exact hb)⟩;.rw[IM (old h1),IM cx.2.1,h2]
   .rw[Ae (old h1),Ae cx.2.1,hp]
   .rw[pao (old h1) (by rw[C6];exact cx.2.2)];exact C6
   .rw[Gj (old h1),h3];unfold jd;rw[Gj cx.2.1]
 .rcases get h with⟨rfl,rfl,rfl⟩|⟨rfl,rfl,rfl⟩|⟨rfl,rfl,rfl⟩|⟨cx,h⟩;.rw[ul']at hw;cases hw
  .have hl:n.cQ=true:=by rw[<-H.rl];exact hw
   obtain⟨q1,q2⟩:=H.rsl hl j hj;refine(q2▸slk (I.ao _ _ _ hs hl _ q1) prx λhd=>?_);exact⟨sNl hs hl _ q1 hd,pam (.inr ⟨hl,j,hj,by rw[q2];exact hd,by rw[q2]⟩)⟩
  .have hl:n.cQ=true:=by rw[<-H.ll];exact hw
   obtain⟨q1,q2⟩:=H.lsl hl j hj;refine(q2▸slk (I.ao _ _ _ hs hl _ q1) (Ae ko.symm) λhd=>?_);have j3:j<3:=aP hj (H.lR hl).2;obtain⟨⟨m',a1,_⟩,_,_,a4⟩:=(I.ao _ _ _ hs hl _ q1).link hd;refine⟨sNl hs hl _ q1 hd,?_⟩;rw[pan (old a1) ?_];exact a4;rintro(⟨oh,_⟩|⟨_,j',hj',uu,e⟩);.rw[hl]at oh;cases oh
   .obtain⟨r1,r2⟩:=H.rsl hl j' hj';rw[r2]at uu e;have:=I.age hs hl r1 q1 uu hd e;omega
  .refine slk (I.ao _ _ _ h hw j hj) (Ae cx.2.1) λhd=>?_;obtain⟨⟨m',a1,_⟩,_,_,a4⟩:=(I.ao _ _ _ h hw j hj).link hd;exact⟨sNl h hw j hj hd,by rw[pao (old a1) (by rw[a4];exact cx.2.2)];exact a4⟩
 .rcases get h with⟨rfl,rfl,rfl⟩|⟨rfl,rfl,rfl⟩|⟨rfl,rfl,rfl⟩|⟨cx,h⟩;.rw[ul']at hw;cases hw
  .have hl:n.cQ=true:=by rw[<-H.rl];exact hw
   have hb:n.aE.bd=true:=by have:=H.rh.1;unfold Mn.mR at this;rw[hw,hl,aw rfl,aw rfl]at this;rw[<-this];exact nT
   obtain⟨m',a1,a2,a3,a4⟩:=I.next _ _ _ hs hl hb;obtain⟨m2,p1,_,p3⟩:=put a1;rw[(H.nx hl).2];refine⟨m2,p1,by rw[p3,a2],by rw[Ae (old a1),prx,a3],?_⟩;rw[rko (old a1),rkx];omega
  .have hl:n.cQ=true:=by rw[<-H.ll];exact hw
   rw[(H.nx hl).1];refine⟨nr,Mv,by rw[H.rl];exact hl,by rw[prx,Ae ko.symm],?_⟩;rw[rkx,rko ko.symm];omega
  .obtain⟨m',a1,a2,a3,a4⟩:=I.next _ _ _ h hw nT;obtain⟨m2,p1,_,p3⟩:=put a1;refine⟨m2,p1,by rw[p3,a2],by rw[Ae (old a1),Ae cx.2.1,a3],?_⟩;rw[rko (old a1),rko cx.2.1];omega
 .obtain⟨⟨m,a1,a2⟩,a3,a4,a5⟩:=I.rt;obtain⟨m2,p1,p2,_⟩:=put a1;refine⟨⟨m2,p1,by rw[(p2 hr).1,a2]⟩,by rw[Gj (old a1),a3],by rw[Ae (old a1),a4],?_⟩;rw[pao (old a1) (by rw[a5];exact hr)];exact a5
 .rcases get h with⟨rfl,rfl,rfl⟩|⟨rfl,rfl,rfl⟩|⟨rfl,rfl,rfl⟩|⟨cx,h⟩;.rw[Ae vz.symm];exact I.pl _ _ _ hu
  .rw[prx];exact I.pl _ _ _ hs
  .rw[Ae ko.symm];exact I.pl _ _ _ hs
  .rw[Ae cx.2.1];exact I.pl _ _ _ h
end
section
variable{Pk:ba->Prop}{σ σ1:kS}{aO gz:Hd}{pre lo:Nat->ba}{fC par rk:Nat->Nat}{iJ:Nat->Prop}
theorem Hv.aE(I:MI Pk σ aO pre lo fC par rk iJ){s g:Nat}{n:Mn}{x:Hd}{L Rr:Lf}(hs:σ s=some (g,n))(hl:n.cQ=true)(h7:n.aE.n=7)(S:IW n.aE x L Rr):Hv (lo s) n {n with aE:=L} ⟨true,Rr,zR⟩ (pP (n.aE.e 3).m) x:=by
 have R:=(I.lf _ _ _ hs hl).1;have hk:n.lx=(List.range n.aE.n).map λi=>pP (n.aE.e i).m:=by unfold Mn.lx;rw[hl,aw rfl]
 have ln:=S.ln;have rn:=S.rn;rw[h7]at ln rn;have le:=S.le;have re:=S.re;have lh:=S.lh;rw[h7]at le re lh;have hb:n.mR=n.aE.bd:=by unfold Mn.mR;rw[hl,aw rfl]
 have hh:n.gA=pP n.aE.cR:=by unfold Mn.gA;rw[hl,aw rfl]
 have hlb:({n with aE:=L}:Mn).mR=L.bd:=by unfold Mn.mR;rw[show({n with aE:=L}:Mn).cQ=n.cQ from rfl,hl,aw rfl]
 have hlh:({n with aE:=L}:Mn).gA=pP L.cR:=by unfold Mn.gA;rw[show({n with aE:=L}:Mn).cQ=n.cQ from rfl,hl,aw rfl]
 have hlk:({n with aE:=L}:Mn).lx=(List.range L.n).map λi=>pP (L.e i).m:=by unfold Mn.lx;rw[show({n with aE:=L}:Mn).cQ=n.cQ from rfl,hl,aw rfl]
 have nf:∀{p:Prop},n.cQ=false->p:=λ{p} h=>by rw[hl]at h;cases h
 refine⟨rfl,hl.symm,λ_=>⟨S.lr,by show L.n<=3;omega⟩,λ_=>⟨S.rr,by show Rr.n<=6;omega⟩,λh=>nf h,λh=>nf h,λk q=>?_,λk q=>⟨?_,λh=>nf h⟩,⟨by rw[hlb];exact lh.2.1,by rw[hlh,lh.1]⟩,⟨by rw[hb];exact S.rh.2.1,by rw[hh];exact fN pP S.rh.1⟩,⟨?_,λh=>?_⟩,λh=>nf h,λh=>nf h,λ_ j hj=>?_,λ_ j hj=>?_,λ_=>⟨lh.2.2,S.rh.2.2⟩⟩;.rw[hlk]at q;obtain⟨i,hi,rfl⟩:=bu.1 q;have hi:=eX.1 hi;rw[hk,le i ah];exact bu.2 ⟨i,eX.2 ah,rfl⟩
 .have q:k∈(List.range Rr.n).map λi=>pP (Rr.e i).m:=q;obtain⟨i,hi,rfl⟩:=bu.1 q;have hi:=eX.1 hi;rw[re i ah,ED (R.r _ ah).m (R.r _ ah).m];cases i with
  |zero=>exact cw
  |succ i=>exact cX (R.lt ah ah)
 .have a:=(I.IA _ _ _ hs (pP (n.aE.e 0).m) (by rw[hk];exact bu.2 ⟨0,eX.2 ah,rfl⟩)).1;exact kG a ((ED (R.r _ ah).m (R.r _ ah).m).2 (R.lt ah ah))
 .rw[hb]at h;rw[hh];exact(ED (R.r _ ah).m R.hi).2 (R.wk 3 ah h)
 .have hj:j<L.n:=hj;exact⟨ah,le j ah⟩
 .have hj:j<Rr.n:=hj;exact⟨ah,re j ah⟩
theorem Hv.aN(I:MI Pk σ aO pre lo fC par rk iJ){s g:Nat}{n:Mn}{x:Hd}(hs:σ s=some (g,n))(hl:n.cQ=false)(h5:n.aN.aJ.length=5):Hv (lo s) n {n with aN:=n.aN.left x} ⟨false,vG,n.aN.right⟩ n.aN.sep x:=by
 obtain⟨R,lf,_⟩:=I.nd _ _ _ hs hl;have nkl:=(R.nd lf).2;have hk:n.lx=n.aN.aJ:=by unfold Mn.lx;rw[hl,ak bL]
 have hb:n.mR=n.aN.bd:=by unfold Mn.mR;rw[hl,ak bL]
 have hh:n.gA=n.aN.cR:=by unfold Mn.gA;rw[hl,ak bL]
 have hlb:({n with aN:=n.aN.left x}:Mn).mR=true:=by unfold Mn.mR;rw[show({n with aN:=n.aN.left x}:Mn).cQ=n.cQ from rfl,hl,ak bL];rfl
 have hlh:({n with aN:=n.aN.left x}:Mn).gA=n.aN.sep:=by unfold Mn.gA;rw[show({n with aN:=n.aN.left x}:Mn).cQ=n.cQ from rfl,hl,ak bL];rfl
 have hlk:({n with aN:=n.aN.left x}:Mn).lx=n.aN.aJ.take 2:=by unfold Mn.lx;rw[show({n with aN:=n.aN.left x}:Mn).cQ=n.cQ from rfl,hl,ak bL];exact ij R h5
 have hrk:(⟨false,vG,n.aN.right⟩:Mn).lx=n.aN.aJ.drop 3:=by show n.aN.right.aJ=_;rw[qL R h5,lf];rfl
 have r8:=FI R h5;have JA:(n.aN.left x).bU=n.aN.bU.take 3:=by show(if n.aN.aE then n.aN.bU else n.aN.bU.take (n.aN.lY+1))=_;rw[lf,ak bL,oj R h5]
 have TO:n.aN.right.bU=n.aN.bU.drop 3:=by show(if n.aN.aE then n.aN.bU else n.aN.bU.drop (n.aN.lY+1))=_;rw[lf,ak bL,oj R h5]
 have Gv:(n.aN.left x).aJ.length=2:=by rw[ij R h5,ax,h5];rfl
 have vO:n.aN.right.aJ.length=2:=by rw[vh R h5,lf];rfl
 have nt:∀{p:Prop},n.cQ=true->p:=λ{p} h=>by rw[hl]at h;cases h
 refine⟨rfl,hl.symm,λh=>nt h,λh=>nt h,λ_=>⟨Nd.R.left R h5,lf,by show(n.aN.left x).aJ.length<=4;omega,?_⟩,λ_=>⟨Nd.R.right R h5,lf,by show n.aN.right.aJ.length<=4;omega⟩,λk q=>?_,λk q=>?_,⟨hlb,hlh⟩,⟨by rw[hb];rfl,by rw[hh];rfl⟩,⟨?_,λh=>?_⟩,λ_ j hj=>?_,λ_ j hj=>?_,λh=>nt h,λh=>nt h,λh=>nt h⟩;.show(n.aN.left x).bU.length<=3;rw[JA,ax];omega
 .rw[hlk]at q;rw[hk];exact ef q
 .rw[hrk]at q;obtain⟨i,hi,rfl⟩:=cu.1 q;rw[aC]at hi;have:n.aN.sep<(n.aN.aJ.drop 3)[i]:=by
   have a:=R.lt (show 2<3+i from ah) ah;rw[<-r8]at a;rw[Lg]
   rwa[az,aF ah]at a
  exact⟨cX this,λ_=>this⟩
 .have a:=(I.IA _ _ _ hs (n.aN.aJ.getD 0 []) (by rw[hk,az,aF ah];exact bS _)).2 hl;rw[r8];exact dZ a (R.lt ah ah)
 .rw[hb]at h;rw[hh,r8];have:=R.wk 2 ah;rw[h]at this;simpa using this
 .have hj:j<(n.aN.left x).bU.length:=hj;show _/\(n.aN.left x).bU.getD j default=_/\(∀lo s,jd lo s (n.aN.left x) j=_)/\kK (n.aN.left x) j=_/\(_->lO (n.aN.left x) j=_);rw[JA,ax]at hj;refine⟨ah,by rw[JA,ig ah],λlo s=>?_,?_,λ_=>?_⟩
  .unfold jd;rw[ij R h5];split;.rfl
   .rw[ig ah]
  .unfold kK;rw[aw (show j<n.aN.aJ.length from ah)];split<;>rfl
  .unfold lO;rw[aw (show j<n.aN.aJ.length from ah),Gv,ij R h5];by_cases h:j<2;.rw[aw h,ig h]
   .rw[ak h,show j=2 from ah];exact r8
 .have hj:j<n.aN.right.bU.length:=hj;show _/\n.aN.right.bU.getD j default=_/\(∀lo jn s x,_->jd jn x n.aN.right j=_)/\kK n.aN.right j=_/\(_->lO n.aN.right j=_);rw[TO,aC]at hj;have eg:∀q,n.aN.right.aJ.getD q []=n.aN.aJ.getD (3+q) []:=λq=>by rw[mP R h5,lf];rfl
  refine⟨ah,by rw[TO,oz],λlo jn s x hx=>?_,?_,λhb=>?_⟩
  .unfold jd;rw[ak (show¬3+j=0 from ah)];split;.rename_i e;subst e;rw[hx];exact r8
   .rw[eg];congr 1;omega
  .unfold kK;rw[vO];by_cases h:j<2;.rw[aw h,aw ah]
   .rw[ak h,ak ah];rfl
  .unfold kK at hb;unfold lO;rw[vO];by_cases h:j<2;.rw[aw h,aw ah,eg]
   .rw[ak h,ak ah];rfl
end
end
end bC
end Go.Proofs.YtonnifoeokagjaaGreat
