/- The theorem quiet_holds of OrdersQuiet: part 1 of its proof; no conditions. -/
import Derived.Orders
import Derived.Below
namespace Go.Proofs.YtonnifoeokagjaaGreat
set_option linter.all false
set_option maxRecDepth 8000
open Option renaming some->J,none->B
open Bool renaming true->M,false->R
open List renaming length->O
namespace br
abbrev ak:=@if_neg
abbrev an:=@Nat.le_refl
abbrev aq:=@List.length_append
abbrev au:=@if_pos
abbrev ax:=@List.length_take
abbrev aA:=@List.append_assoc
abbrev aB:=@List.getD_eq_getElem?_getD
abbrev aC:=@List.length_drop
abbrev aD:=@List.take_append_of_le_length
abbrev aF:=@List.getElem?_eq_getElem
abbrev aH:=@List.take_of_length_le
abbrev aM:=@Nat.mul_le_mul_right
abbrev aN:=@decide_eq_true
abbrev aP:=@Nat.lt_of_lt_of_le
abbrev aQ:=@Nat.zero_le
abbrev aS:=@Bool.and_eq_true
abbrev aT:=@Option.bind_some
abbrev aU:=@decide_eq_false
abbrev aV:=@List.mem_singleton
abbrev aX:=@List.drop_of_length_le
abbrev aZ:=@Nat.lt_succ_self
abbrev bg:=@List.mem_map
abbrev bh:=@List.length_map
abbrev bj:=@List.take_succ_eq_append_getElem
abbrev bA:=@List.take_append_drop
abbrev bB:=@Nat.lt_or_ge
abbrev bC:=@Nat.add_mul
abbrev bD:=@List.length_cons
abbrev bE:=@List.flatMap_cons
abbrev bF:=@Option.some.injEq
abbrev bG:=@Nat.le_succ
abbrev bI:=@List.take_take
abbrev bJ:=@List.mem_cons
abbrev bL:=@List.flatMap_append
abbrev bN:=@List.mem_append
abbrev bO:=@List.getElem_mem
abbrev bP:=@List.mem_cons_of_mem
abbrev bX:=@List.getElem?_append_left
abbrev b9:=@Nat.min_eq_left
abbrev cp:=@Nat.not_lt_zero
abbrev cx:=@List.drop_append_of_le_length
abbrev cy:=@List.append_nil
abbrev cz:=@List.nil_append
abbrev cA:=@if_true
abbrev cB:=@List.map_cons
abbrev cE:=@List.getElem?_append_right
abbrev cF:=@Nat.lt_trichotomy
abbrev cJ:=@Classical.byContradiction
abbrev cM:=@List.drop_eq_getElem_cons
abbrev cN:=@List.mem_iff_getElem
abbrev cR:=@List.mem_filter
abbrev cS:=@List.mem_flatMap
abbrev cU:=@if_false
abbrev df:=@Nat.mul_one
abbrev dm:=@List.map_append
abbrev du:=@Bool.false_eq_true
abbrev dz:=@Nat.lt_irrefl
abbrev dB:=@Nat.one_mul
abbrev dD:=@List.getElem?_eq_some_iff
abbrev dJ:=@List.take_zero
abbrev dM:=@List.length_singleton
abbrev dN:=@UInt8.lt_iff_toNat_lt
abbrev dP:=@Nat.add_zero
abbrev dQ:=@List.mem_range
abbrev dZ:=@Nat.min_self
abbrev ed:=@List.getElem?_eq_none
abbrev ef:=@List.cons_lt_cons_iff
abbrev ew:=@Nat.le_add_right
abbrev eB:=@Option.map_some
abbrev eC:=@Nat.le_of_lt
abbrev eN:=@of_decide_eq_true
abbrev eP:=@List.pairwise_cons
abbrev eQ:=@List.getElem?_take
abbrev fe:=@List.mem_of_mem_take
abbrev ff:=@congrArg
abbrev fg:=@Array.toArray_toList
abbrev fx:=@List.length_nil
abbrev fB:=@Nat.le_trans
abbrev fC:=@Nat.zero_add
abbrev fD:=@List.map_congr_left
abbrev fF:=@List.take_length
abbrev fG:=@List.length_set
abbrev fH:=@UInt8.toNat_inj
abbrev fI:=@Option.getD_some
abbrev fJ:=@Nat.zero_mul
abbrev fK:=@decide_eq_true_eq
abbrev fN:=@Array.getD_eq_getD_getElem?
abbrev fQ:=@Array.length_toList
abbrev fU:=@List.all_eq_true
abbrev fV:=@List.isPrefixOf_iff_prefix
abbrev fZ:=@Nat.add_assoc
abbrev gh:=@List.getElem?_drop
abbrev gj:=@Nat.add_sub_cancel
abbrev gz:=@List.drop_take
abbrev gG:=@List.set_eq_take_append_cons_drop
abbrev gJ:=@List.getElem?_take_of_lt
abbrev gL:=@Bool.not_true
abbrev gM:=@List.sum_cons
abbrev gY:=@List.getElem?_map
abbrev ij:=@Nat.add_sub_cancel_left
abbrev ir:=@List.eraseIdx_eq_take_drop_succ
abbrev iC:=@List.length_eraseIdx_of_lt
abbrev iG:=@List.nodup_cons
abbrev iN:=@List.pairwise_iff_getElem
abbrev iR:=@Nat.add_le_add_left
abbrev iX:=@List.ext_getElem?
abbrev iZ:=@Bool.not_false
abbrev jh:=@List.mem_cons_self
abbrev ji:=@Int.natCast_nonneg
abbrev jl:=@decide_eq_decide
abbrev jn:=@List.mem_append_left
abbrev jo:=@List.drop_append
abbrev jr:=@List.pairwise_append
abbrev ju:=@List.mem_of_mem_drop
abbrev jF:=@Bool.not_eq_true'
abbrev jW:=@List.drop_length
abbrev j9:=@UInt8.toNat_ofNat_of_lt'
abbrev kN:=@beq_iff_eq
abbrev kS:=@List.drop_succ_cons
abbrev kT:=@List.sum_append_nat
abbrev kV:=@Nat.add_comm
abbrev kX:=@Nat.sub_self
abbrev kZ:=@Nat.pow_succ
abbrev k9:=@List.take_add
abbrev lC:=@List.cons_append
abbrev lD:=@List.filter_cons
abbrev lL:=@List.countP_append
abbrev lM:=@List.drop_drop
abbrev lQ:=@List.length_replicate
abbrev mj:=@Bool.or_eq_false_iff
abbrev mu:=@List.nodup_append
abbrev mP:=@List.takeWhile_cons
abbrev mV:=@List.take_succ_cons
abbrev mZ:=@List.getElem?_replicate
abbrev nc:=@List.drop_zero
abbrev ni:=@Nat.mod_eq_of_lt
abbrev nm:=@List.countP_cons
abbrev nC:=@List.nodup_nil
abbrev nN:=@Nat.sub_mul
abbrev nW:=@Nat.eq_zero_or_pos
abbrev nX:=@List.length_pos_of_mem
abbrev nZ:=@List.prefix_append
abbrev n7:=@List.map_nil
abbrev oa:=@Option.isSome_none
abbrev oQ:=@List.set_append_right
abbrev oZ:=@Int.toNat_natCast
abbrev pQ:=@List.perm_ext_iff_of_nodup
abbrev pS:=@Bool.false_and
abbrev qi:=@Nat.succ_mul
abbrev qj:=@List.map_set
abbrev qk:=@Nat.sub_zero
abbrev ql:=@decide_false
abbrev qu:=@Nat.shiftRight_eq_div_pow
abbrev qD:=@List.replicate_succ
abbrev qP:=@Bool.false_or
abbrev rm:=@Nat.lt_of_le_of_lt
abbrev rq:=@of_decide_eq_false
abbrev rz:=@Nat.sub_add_cancel
abbrev rA:=@Option.isSome_some
abbrev rN:=@decide_true
abbrev se:=@List.getElem?_cons_succ
abbrev sI:=@List.pairwise_map
abbrev sJ:=@Int.ofNat_lt
abbrev sK:=@Nat.mul_comm
abbrev sU:=@List.getElem?_set
abbrev sY:=@List.map_map
abbrev tH:=@Array.getElem?_setIfInBounds_ne
abbrev tL:=@List.prefix_of_prefix_length_le
abbrev tP:=@List.pairwise_flatMap
abbrev uo:=@List.any_eq_true
abbrev ur:=@Nat.and_two_pow_sub_one_eq_mod
abbrev uB:=@List.map_take
abbrev uV:=@List.eq_nil_of_length_eq_zero
abbrev vt:=@List.all_append
abbrev vu:=@Bool.or_eq_true
abbrev vE:=@List.take_left'
abbrev wN:=@Array.getElem?_push
abbrev wU:=@List.getElem?_range
abbrev xS:=@List.find?_eq_none
abbrev x7:=@List.take_succ
abbrev x9:=@Bool.and_false
abbrev y9:=@List.size_toArray
abbrev zV:=@List.map_drop
abbrev zW:=@List.length_erase_of_mem
abbrev zZ:=@List.getElem_append_left
abbrev Ab:=@Bool.true_and
abbrev Ac:=@Nat.mul_assoc
abbrev Bx:=@List.take_append
abbrev BE:=@Nat.shiftLeft_eq
abbrev BP:=@List.pairwise_singleton
abbrev B':=@List.getElem?_cons_zero
abbrev Cq:=@Int.ofNat_le
abbrev Ct:=@Nat.div_div_eq_div_mul
abbrev Cz:=@List.getElem?_eraseIdx
abbrev CC:=@Array.ext'
abbrev CM:=@Bool.or_true
abbrev DK:=@List.foldl_cons
abbrev Ek:=@List.cons.injEq
abbrev EU:=@List.singleton_append
abbrev EX:=@List.getElem_eraseIdx
abbrev EZ:=@List.length_filter_le
abbrev FJ:=@eq_false
abbrev F5:=@List.mem_erase_of_ne
abbrev Gl:=@Nat.mul_le_mul
abbrev Gt:=@Nat.pow_le_pow_right
abbrev GM:=@List.count_le_length
abbrev GU:=@Nat.pow_mul
abbrev IV:=@List.mem_map_of_mem
abbrev IW:=@Nat.add_lt_add_left
abbrev IX:=@List.replicate_zero
abbrev Je:=@Nat.mul_le_mul_left
abbrev Km:=@Bool.true_beq
abbrev Lv:=@List.Nodup.sublist
abbrev Lz:=@List.set_cons_zero
abbrev NN:=@Nat.or_lt_two_pow
abbrev NO:=@List.length_range
abbrev NP:=@List.getElem_drop
abbrev NY:=@not_true_eq_false
abbrev N0:=@Nat.mul_zero
abbrev Oa:=@Nat.lt_succ_of_lt
abbrev Oe:=@UInt8.ofNat_toNat
abbrev On:=@not_false_eq_true
abbrev PC:=@Bool.true_or
abbrev PE:=@Nat.succ_pos
abbrev SE:=@Nat.succ_le_succ
abbrev XN:=@Nat.shiftLeft_add_eq_or_of_lt
abbrev XR:=@Array.map_empty
abbrev X0:=@Nat.min_le_left
abbrev X':=@UInt8.lt_irrefl
noncomputable section
theorem Z{α:Sort _}{a:α}:a=a:=rfl
theorem ata{p:Prop}(h:p:=by
 repeat' first|exact aG.refl|apply aG.fo|(apply aG.set;rotate_left;omega)):p:=h
theorem atb{p:Prop}(h:p:=by
 refine⟨i,cC+1+10,H,ht,Z,?_,?_,U,?_⟩
 .refine q1.jw ?_ ?_ ?_ (by show cC<=cC+1+12;omega);.show N _ p.pb=N _ p.pb;have:=s2.1;rw[Xg U,Xg (λe=>this e.symm),Xg U,Xg U,Xg U]
  .show N _ p.gb=N _ p.gb;have:=s2.2.1;rw[Xg U,Xg (λe=>this e.symm),Xg U,Xg U,Xg U]
  .show N _ p.fb=N _ p.fb;have:=s2.2.2;rw[Xg U,Xg (λe=>this e.symm),Xg U,Xg U,Xg U]
 .have cD:=ok.ne;refine⟨?_,?_,λe V=>?_,?_,?_,λe V=>?_,ok.ne,?_,?_⟩;.show N _ a.ab=_;rw[Xg U,Xg cD,Xg U,Xg U,Xg U,k1]
  .show N _ a.mb=_;rw[Xg U,aj,au Z,dm];rfl
  .rcases bN.1 V with V|V;.have:=ok.fr e V;have g:=sp.sc e V;rw[Xg U,Xg this.2.1,Xg U,Xg U,Xg U,q2 _ U g.1 g.2.1 g.2.2,Xg U,Xg U];exact ok.cl e V
   .simp only[aV]at V;subst V;show N _ (cC+1+10)=_;rw[Xg U,Xg U,aj,au Z];rfl
  .show((a.es++[_]).map iB.X).Nodup;rw[dm,mu];refine⟨ok.ng,bR,λy hy hd hz=>?_⟩;obtain⟨e,V,rfl⟩:=bg.1 hy;simp only[cB,n7,aV]at hz;intro G;have:=(sp.taken e V).2;rw[G,hz,ht]at this;cases this
  .show((a.es++[_]).map iB.bT).Nodup;rw[dm,mu];refine⟨ok.Ll,bR,λy hy hd hz=>?_⟩;obtain⟨e,V,rfl⟩:=bg.1 hy;simp only[cB,n7,aV]at hz;have:=ok.fr e V;omega
  .show e.bT≠a.ab/\e.bT≠a.mb/\e.bT<cC+1+12;rcases bN.1 V with V|V
   .have:=ok.fr e V;exact⟨this.1,this.2.1,U⟩
   .simp only[aV]at V;subst V;show cC+1+10≠a.ab/\cC+1+10≠a.mb/\cC+1+10<cC+1+12;omega
  .show a.ab<cC+1+12;omega
  .show a.mb<cC+1+12;omega
 .intro b D g1 g2 g3 g4;rw[Xg,Xg g4,Xg,Xg,Xg,q2 b U g1 g2 g3,Xg,Xg]):p:=h
theorem atc{p:Prop}(h:p:=by
 refine⟨s2.tb.trans s1.tb,s2.ab.trans s1.ab,s2.mb.trans s1.mb,s2.pb.trans s1.pb,s2.gb.trans s1.gb,s2.fb.trans s1.fb,s2.fl.trans s1.fl,λs G=>s2.fr s (s1.fr s G),λe V=>?_,λe V=>?_,λe V=>?_,λb D g1 g2 g3 g4 g5 g6=>?_⟩
 .obtain⟨f,hf,LF⟩|h:=s2.bT e V
  .obtain⟨g,hg,hgf⟩|h:=s1.bT f hf;.exact .inl ⟨g,hg,hgf.trans LF⟩
   .exact .inr U
  .exact .inr U
 .have⟨f,hf,a1,a2⟩:=s1.old e V;have⟨g,hg,b1,b2⟩:=s2.old f hf;exact⟨g,hg,b1.trans a1,b2.trans a2⟩
 .obtain⟨f,hf,LF⟩|h:=s2.slt e V
  .obtain⟨g,hg,hgf⟩|h:=s1.slt f hf;.exact .inl ⟨g,hg,hgf.trans LF⟩
   .exact .inr (LF▸h)
  .right;cases hq:p.fr.getD e.X R with
   |true=>rfl
   |false=>rw[s1.fr _ hq]at h;cases h
 .rw[s2.aW b U (s1.tb▸g1) (s1.pb▸g2) (s1.gb▸g3) (s1.fb▸g4) (s1.mb▸g5) (λe V=>?_)];.exact s1.aW b D g1 g2 g3 g4 g5 g6
  .obtain⟨f,hf,LF⟩|h:=s1.bT e V;.rw[<-LF];exact g6 f hf
   .omega):p:=h
theorem ate{p:Prop}(h:p:=by
 exact⟨by rw[Op.equalIn];simp only[Sem.run_bind,run_underlying hu,Result.andThen_ok];rfl,by simp[KG]⟩):p:=h
theorem atg{p:Prop}(h:p:=by
 refine⟨((Frame.refl.set (.inr Z)).set (.inr Z)),Z,.inr ⟨b,cap,_,by rw[EV],iA,by rw[EV];exact h7,?_,?_⟩⟩;.simp only[aq,ax,aC,bD,fx,cj hz,cf];omega
 .rw[EV,vN,bL,ht,aA,aD (by rw[ax,xL];omega),bI,dZ,aA,<-aA,aD (by simp only[aq,ax,aC,cj hz,cf];omega),aH (by simp only[aq,ax,aC,cj hz,cf];omega)]):p:=h
theorem ath{p:Prop}(h:p:=by
 cases z:P.underlying t with
 |none=>rw[z]at hu;cases hu
 |some d=>rw[z]at hu;cases d<;>first|rfl|cases hu):p:=h
theorem atk{p:Prop}(h:p:=by
 obtain V|V:=bN.1 V
 .have:=o.sp.taken e V;refine⟨by simpa using this.1,?_⟩;obtain h|h:=wI e.X
  .exact h
  .exact h.trans this.2
 .simp only[aV]at V;subst V;refine⟨by simpa using H,?_⟩;show(p.fr.set i R).getD i R=R;simp[List.getD,H]):p:=h
theorem atl{p:Prop}(h:p:=by
 refine⟨Frame.refl.set (.inr Z),Z,.inr ⟨b,cap,_,by rw[EV,qX];rfl,iA,by rw[EV];omega,?_,?_⟩⟩;.simp only[aq,ax,aC,bD,fx,cf];omega
 .rw[EV,vN,bL,ht,qX,aX (show O l<=i+1 from U),aA,dP,aD (by rw[ax,cf];omega),bI,dZ];simp):p:=h
theorem atm{p:Prop}(h:p:=by
 have X4:=ok.la;have RE:=ok.lm;refine⟨by rw[Xg];exact ok.ar,by rw[Xg];exact ok.mp,λf nP=>?_,ok.ng,ok.Ll,λf nP=>?_,ok.ne,U,U⟩;.have:=ok.fr f nP;rw[Xg];exact ok.cl f nP
 .have:=ok.fr f nP;exact⟨this.1,this.2.1,U⟩):p:=h
theorem atn{p:Prop}(h:p:=by
 cases L;injection V with V;subst V
 exact⟨_,by simp[Builtin.len_,run_underlying hu],.g _⟩):p:=h
theorem atp{p:Prop}(h:p:=by
 by_cases A:fr.getD i (!w)=w
 .have hbe:(w==fr.getD i (!w))=M:=by rw[A];simp
  refine Ik s0 s1 s7 s8 uk hf hn hbe ?_;exact⟨i,uk,A,Z,Z,Z⟩
 .have hbe:(w==fr.getD i (!w))=R:=by cases w<;>cases D:fr.getD i _<;>simp_all
  refine asA s0 s1 s7 s8 uk hf hn hbe (U:i+1<9223372036854775808) ?_;have:i<j:=by
   obtain h|h:=bB i j;.exact h
   .have:i=j:=U;subst this;exact absurd hjt A
  exact⟨_,(U:j-(i+1)<_),i+1,this,bR⟩):p:=h
theorem atq{p:Prop}(h:p:=by
 cases hy;injection V with V;subst V
 refine⟨?_,by simp[KG]⟩;rw[Op.equalIn];simp only[Sem.run_bind,run_underlying hu,Result.andThen_ok];rfl):p:=h
theorem atr{p:Prop}(h:p:=by
 rcases a5 with a5|a5<;>obtain b5|b5:=b5;.exact absurd (a5.symm.trans b5) cD
 .exact .inl ⟨by rw[<-a5,b5.1],b5.2⟩
 .exact .inr ⟨a5.2,by rw[<-b5,a5.1]⟩
 .exact absurd (a5.2.trans b5.2.symm) cD):p:=h
theorem ats{p:Prop}(h:p:=by
 have DF:=grownCap_ge w (0+n) 0 e;simp only[fC]at eV DF;refine⟨w.heap.size,grownCap w n 0 e,_,gi eV,U,hr.fresh (an _),?_⟩;have hzl:(Builtin.zeroCells hd.cells (grownCap w n 0 e-n)).size=(grownCap w n 0 e-n)*i.size:=by rw[pK,o5]
 refine hr.rf Z sC (c':=(Builtin.zeroCells hd.cells (grownCap w n 0 e-n)).toList) ?_ bR;simp only[aq,fQ,hzl,cf,<-bC]
 congr 1
 omega):p:=h
theorem att{p:Prop}(h:p:=by
 repeat' split at hq
 all_goals first|(cases hq;rfl)|cases hq):p:=h
theorem atu{p:Prop}(h:p:=by
 rename_i e;rw[e]at L;injection hq with hq;subst hq
 refine⟨_,?_,L⟩;generalize hu:ev x=AV at*;cases L;simp[execOp,hu]):p:=h
theorem atv{p:Prop}(h:p:=by
 obtain _|⟨W,_|⟨F,⟨⟩⟩⟩:=h
 refine .cons W (.cons ?_ .nil);cases F with|agg h=>
 obtain _|⟨a1,_|⟨a2,_|⟨a3,_|⟨a4,_|⟨a5,_|⟨a6,_|⟨a7,_|⟨a8,⟨⟩⟩⟩⟩⟩⟩⟩⟩⟩:=h
 exact VR.agg (c:=[_,_,_,_,_,_,_,_]) (.cons a1 (.cons (rY a2) (.cons (rY a3) (.cons (rY a4) (.cons a5 (.cons a6 (.cons a7 (.cons a8 .nil))))))))):p:=h
theorem atx{p:Prop}(h:p:=by
 rw[xY]at hj;cases K:n.ay with
 |true=>
  rw[K]at hj;simp only[cA]at hj⊢;refine⟨?_,λh=>by rw[show n.right.ay=n.ay from Z,K]at h;cases h⟩;cases j with
  |zero=>exact bU
  |succ j=>exact dA (tg.lt U U)
 |false=>rw[K]at hj;simp only[du,cU]at hj⊢;have:=tg.lt (show 2<3+j from U) U;exact⟨dA this,λ_=>this⟩):p:=h
theorem aty{p:Prop}(h:p:=by
 intro s h Y t ht ⟨vs,W,F⟩;refine .done P ⟨Z,one vs,?_,F⟩;show(if M&& !R&& !qO t then(match P.funcs[f]? with
  |some fn=>match eW P h s fn.results.toList with
   |some vs=>J (one vs)
   |none=>B
  |none=>B)else B)=_
 rw[ht,hf];show(match eW P h s fn.results.toList with|some vs=>_|none=>_)=_;rw[W]):p:=h
theorem atz{p:Prop}(h:p:=by
 intro t g' q ht;by_cases e:t=s;.subst e;rw[eS]at ht;injection ht with ht;injection ht with _ ht;exact .inl ⟨Z,ht.symm⟩
 .rw[fq e]at ht;by_cases e':t=x.X;.subst e';rw[eS]at ht;injection ht with ht;injection ht with _ ht;exact .inr (.inl ⟨Z,ht.symm⟩)
  .rw[fq e']at ht;exact FF ⟨e,e',ht⟩):p:=h
theorem atA{p:Prop}(h:p:=by
 have i1:=vM (O p.fr) (t.a.es.map iB.X) o.tk.ok.ng λx L=>by obtain⟨e,V,rfl⟩:=bg.1 L;exact(o.sp.taken e V).1
 have i2:=o.pk.small;rw[bh]at i1;omega):p:=h
theorem atC{p:Prop}(h:p:=by
 refine cm c λ_ Q E _ ⟨e1,e2,e3⟩=>?_;subst e1;subst e2;subst e3;refine QZ ?_;exact .of (aG.refl.set (an _)) (.cw ⟨hf.2.2,trivial,trivial⟩)):p:=h
theorem atD{p:Prop}(h:p:=by
 have xY:O (l.take i++x::l.drop i)=O l+1:=gr;refine .inr ⟨b,cap,zyQ,by rw[xY],iA,by rw[xY];exact g1,g2,?_⟩;have e1:(O l+1)*1=i*1+(1+(O l-i)*1):=by have:O l+1=i+(1+(O l-i)):=U;rw[this,bC,bC,dB]
 rw[hre,xY,e1,k9,k9,g3,g4,lM];have e2:i*1+1=(i+1)*1:=by rw[bC,dB]
 rw[e2,g5,aA]):p:=h
theorem atE{p:Prop}(h:p:=by
 rw[bC]at TP;split;.rename_i A;have:O l-(i+1)=0:=U;rw[this,aX U,fJ,iq,aT,qR];rfl
 .rw[eY _ _ (cf▸Hj),aT,bZ _ _ (by rw[aC,cf];omega),e1]):p:=h
theorem atF{p:Prop}(h:p:=by
 refine⟨.slice (if m=l then J ⟨k,off,B⟩else(J (⟨k,off,B⟩:Addr)).map (·.add (l*size))) (h-l) (m-l),by simp[Instr.sliceAt,Instr.slice,run_underlying hu,mB,eU G],?_⟩;by_cases A:m=l;.simp only[A,cA];exact .sl D
 .simp only[A,cU,eB,jN];exact .sl D):p:=h
theorem atG{p:Prop}(h:p:=by
 repeat' first|exact mA|apply aG.fo|(apply aG.set;rotate_left;omega)):p:=h
theorem atI{p:Prop}(h:p:=by
 intro q hq e;have:∃g m,σ1 (at_ hx q).X=J (g,m):=by
  obtain g|g:=bB (q+1) j;.have⟨m,_,g2,_⟩:=I.old q g;exact⟨_,_,g2⟩
  .have:q=j-1:=U;subst this;exact⟨_,_,hn⟩
 have⟨g,m,g2⟩:=this;rw[e,L]at g2;cases g2):p:=h
theorem atJ{p:Prop}(h:p:=by
 intro i H K;have⟨m',W,F,h3,h4,h5⟩:=I.kD _ _ _ G K i H;have⟨m2,p1,p2,_⟩:=put W;have:(n.bu.getD i default).X≠s:=λe=>by rw[e]at F;omega
 exact⟨m2,p1,old W,F,h3,by rw[(p2 this).1,h4],by rw[(p2 this).2,h5]⟩):p:=h
theorem atK{p:Prop}(h:p:=by
 have w:cO .i64 (((O l1+O l2:Nat):Int)+(O l3:Int))=((O l1+O l2+O l3:Nat):Int):=qI;have g:¬(((O l1+O l2+O l3:Nat):Int)<0):=U;simp+decide-dsimp only[go_sem,s0,s3,s9,xN,yK,D,sm,w,g,reduceAdd];exact⟨0,bS,3,bS,Z,Z,Z⟩):p:=h
theorem atL{p:Prop}(h:p:=by
 rcases I.uniq _ _ _ _ _ _ a1 b1 (by rw[<-a2,<-b2];exact rU) hq with⟨e1,e2⟩|⟨e1,e2⟩;.have⟨c1,c2⟩:=a4 e1;exact .inl ⟨c1,gD (gD c2 e2) b3⟩
 .have⟨c1,c2⟩:=b4 e1;exact .inr ⟨c1,gD (gD c2 e2) a3⟩):p:=h
theorem atM{p:Prop}(h:p:=by
 exact⟨_,by simp[eqGuard,binOp,Op.intCmp],.g _⟩):p:=h
theorem atN{p:Prop}(h:p:=by
 cases q:(aw h).ay with
 |false=>rfl
 |true=>exact absurd ((h2.ay G).1 q) K):p:=h
theorem atO{p:Prop}(h:p:=by
 rename_i cD;rw[zxQ.us j hj];constructor
 .rintro⟨hd,hz⟩;refine⟨hd,?_⟩;rw[kY lp,ak];.exact hz
  .intro e;subst e;omega
 .rintro⟨hd,hz⟩;rw[kY lp]at hz;split at hz;.omega
  .exact⟨hd,hz⟩):p:=h
theorem atP{p:Prop}(h:p:=by
 split at V
 .rename_i q hq;injection V with V;injection V with W F;subst W;subst F
  have⟨vs,va,cf,eV⟩:=sO (P:=P) hr D hq;exact⟨vs,va,.inl ⟨e',xW,Z,λw' hw=>eV w' hw⟩,λ_=>cf⟩
 .cases V):p:=h
theorem atQ{p:Prop}(h:p:=by
 have w:cO .i64 ((O l1:Int)+(O l2:Int))=((O l1+O l2:Nat):Int):=qI;have g:¬(((O l1+O l2:Nat):Int)<0):=U;simp+decide-dsimp only[go_sem,s0,s3,s9,xN,yK,D,sm,w,g,reduceAdd];exact⟨1,bS,2,bS,Z,Z,Z⟩):p:=h
theorem atT{p:Prop}(h:p:=by
 refine CV λe V G=>?_;have:=om o.tk.ok.ng V;rw[G]at this;have:=f1.symm.trans this;cases this):p:=h
theorem atU{p:Prop}(h:p:=by
 refine pO λcap gs g1 g2=>?_;have h0:(0:Nat)<=cap:=aQ _;refine Xf h0 ?_;exact⟨aG.refl.set (an _),.sl (an _) (aZ _),.inr ⟨Y,cap,_,Z,iA,aQ _,by rw[aq,K,bh];exact g2,Z⟩⟩):p:=h
theorem atW{p:Prop}(h:p:=by
 unfold j8;simp only[hA,AO.cells?];cases hc with
 |nil=>simp only[fx]at cf;omega
 |cons=>rfl):p:=h
theorem atX{p:Prop}(h:p:=by
 refine .fz (vs:=(vs.drop (l*size)).take ((h-l)*size)) (λi v H=>?_) U ((hv.drop _).take _);rw[eQ]at H;split at H
 .rw[gh]at H;have:=hz _ v H
  rwa[<-fZ]at this
 .cases H):p:=h
theorem atY{p:Prop}(h:p:=by
 rw[e']at L;injection hq with hq;subst hq
 generalize HH:ev x=AV at*;cases L;exact⟨_,by simp[execOp,resolve,invoke,builtin,HH,Builtin.cap_,run_underlying hu],.g _⟩):p:=h
theorem atZ{p:Prop}(h:p:=by
 have w:cO .i64 (((0:Nat):Int)+(O l1:Int))=(O l1:Int):=qI;have g:¬((O l1:Int)<0):=U;simp+decide-dsimp only[go_sem,s0,s3,s9,xN,yK,D,sm,w,g];exact⟨2,bS,1,bS,Z,Z,Z⟩):p:=h
theorem aua{p:Prop}(h:p:=by
 have a1:=o.pk.tD;have a2:=o.pk.tJ;have a3:=o.pk.tM;rcases bN.1 V with V|V
 .exact o.sp.sc e V
 .simp only[aV]at V;subst V;show bT≠p.pb/\bT≠p.gb/\bT≠p.fb;omega):p:=h
theorem auc{p:Prop}(h:p:=by
 obtain V|V:=bN.1 V;.exact .inl ⟨e,V,Z⟩
 .simp only[aV]at V;subst V;exact .inr ht):p:=h
theorem aud{p:Prop}(h:p:=by
 rw[<-q]at D;exact⟨(o.tk.kd g hg b D).1,λh=>(o.tk.kd g hg b D).2 (Ar.qm.1 h)⟩):p:=h
theorem aue{p:Prop}(h:p:=by
 rw[<-q]at D;rw[<-r]at iQ;exact o.tk.kk f1 Vy g1 MU (by rw[e1,e2];exact cD) b D iQ):p:=h
theorem auf{p:Prop}(h:p:=by
 repeat' first|exact aG.refl|apply aG.fo|(apply aG.set;rotate_left;omega)
 exact SA):p:=h
theorem aug{p:Prop}(h:p:=by
 repeat' first|exact aG.refl|apply aG.fo|(apply aG.set;rotate_left;omega)
 exact S0):p:=h
theorem auh{p:Prop}(h:p:=by
 obtain h|h:=I.small _ _ _ G;.exact h
 .exact absurd h.1 id):p:=h
theorem aui{p:Prop}(h:p:=by
 exact⟨aG.refl.set (an _),.sl (an _) (aZ _),.inr ⟨Y,0,[],Z,iA,an _,bR,Z⟩⟩):p:=h
theorem auk{p:Prop}(h:p:=by
 refine this.congr ?_;simp[execOp,resolve,invoke,builtin]):p:=h
theorem aul{p:Prop}(h:p:=by
 intro s;by_cases G:i=s;.subst G;left;simp[List.getD,H]
 .right;simp[List.getD,G]):p:=h
theorem aum{p:Prop}(h:p:=by
 cases z:P.underlying t with
 |none=>rw[z]at hu;cases hu
 |some d=>
  rw[z]at hu;cases d<;>first|cases hu|skip
  simp[dE,eX,jm,u.pV,qA,wP,z,rP,Mw,zP]):p:=h
theorem aun{p:Prop}(h:p:=by
 obtain⟨kk,n,size,hk,h0,W,G,rfl⟩:=key D hq;refine⟨_,?_,.ptr D⟩;simp[execOp,HH,hk,Instr.indexAt,asIntOf,run_underlying hu,h0,W,eU G,jN]):p:=h
theorem auo{p:Prop}(h:p:=by
 rw[<-hfm,<-cf];rw[<-hfm]at F;rw[<-cf]at W;refine hk _ _ _ (bG _) (Own.grown hz W F) (λb D=> .inr ?_) (λb D _=>Ce);injection D with D;omega):p:=h
theorem aup{p:Prop}(h:p:=by
 intro t g' q ht;by_cases e:t=s;.subst e;obtain⟨rfl,rfl⟩:=some_inj h ht;exact⟨_,eS⟩
 .exact⟨q,by rw[fq e,fq (old ht)];exact ht⟩):p:=h
theorem auq{p:Prop}(h:p:=by
 obtain h|h|h:=cF i j
 .have:=zxQ.lt h hj;rw[em]at this;exact absurd this bU
 .exact h
 .have:=zxQ.lt h H;rw[em]at this;exact absurd this bU):p:=h
theorem aur{p:Prop}(h:p:=by
 have⟨fn,tmps,td,defers,mode,kind,roundOf⟩:=f;simp only at hm ht;subst hm;subst ht;exact step_lone_go (by simp[stepG,stepG.exec,h])):p:=h
theorem aut{p:Prop}(h:p:=by
 exact⟨O hl-(i+1),U,i+1,dc,Z,Z,nB.trans vC l2,U⟩):p:=h
theorem auu{p:Prop}(h:p:=by
 have dc:=(dD.1 hj).1;simp[World.cell?,hk,bX dc,hj]):p:=h
theorem auv{p:Prop}(h:p:=by
 exact⟨k',aZ _,hd.m,M,X2,zxQ.m,⟨by(repeat' first|exact aG.refl|apply aG.fo|(apply aG.set;rotate_left;omega));exact SB,Z⟩,U⟩):p:=h
theorem auw{p:Prop}(h:p:=by
 exact⟨⟨_,_,_,_,Z⟩,kQ.none o ok (by(repeat' first|exact aG.refl|apply aG.fo|(apply aG.set;rotate_left;omega));exact S0) U⟩):p:=h
theorem auy{p:Prop}(h:p:=by
 intro c q e l;rw[aj]at e;split at e;.injection e with e;subst e;exact absurd l (by simp[AO.live])
 .rename_i cD;exact⟨cD,e⟩):p:=h
theorem auz{p:Prop}(h:p:=by
 intro s g n h;by_cases e:s=x.X;.rw[e,dF]at h;injection h with h;injection h with _ h;exact⟨e,h.symm⟩
 .rw[cT e]at h;cases h):p:=h
theorem auB{p:Prop}(h:p:=by
 by_cases Nf:f.X=e.X;.exact⟨{f with x:=x},bg.2 ⟨f,nP,by rw[au Nf]⟩,Z,Z⟩
 .exact⟨f,bg.2 ⟨f,nP,by rw[ak Nf]⟩,Z,Z⟩):p:=h
theorem auC{p:Prop}(h:p:=by
 by_cases h:j<2;.rw[au U,au U]
 .rw[ak U,ak U];rfl):p:=h
theorem auE{p:Prop}(h:p:=by
 by_cases q:i+1<O l;.exact .inl ⟨U,q,by rw[mB,aN q],by rw[qB,au q]⟩
 .exact .inr ⟨U,q,by rw[mB,aU q],by rw[qB,ak q]⟩):p:=h
theorem auF{p:Prop}(h:p:=by
 have:(b.toNat+1)*P<=a.toNat*P:=aM _ h;rw[bC]at this;constructor;.rintro(Q|⟨Q,_⟩)<;>omega
 .rintro(Q|⟨Q,_⟩)<;>omega):p:=h
theorem auG{p:Prop}(h:p:=by
 have⟨m,e1,e2,e3⟩:=I.old q U;refine⟨m,e1,?_,e3⟩;rw[cT (cD q (j-2) U U),cT (Zl q U),cT (cD q (j-1) U U)];exact e2):p:=h
theorem auH{p:Prop}(h:p:=by
 split at hq
 .rename_i hd hz;injection hq with hq;subst hq
  exact⟨hd,by simp[execOp,jy P _ _ hz w],.g hd⟩
 .cases hq):p:=h
theorem auI{p:Prop}(h:p:=by
 by_cases G:f.X=s;.exact⟨{f with x:=x},bg.2 ⟨f,hf,by rw[au G]⟩,e⟩
 .exact⟨f,bg.2 ⟨f,hf,by rw[ak G]⟩,e⟩):p:=h
theorem auJ{p:Prop}(h:p:=by
 obtain e|e|e|⟨f,hf,e⟩:=D
 .rw[e];exact o.sd
 .rw[e];exact o.sp.sa
 .rw[e];exact o.sp.sm
 .rw[<-e];exact o.sp.sc f hf):p:=h
theorem auK{p:Prop}(h:p:=by
 rw[p6];unfold lG;rw[au U,Jd];by_cases h:j<2;.rw[au h,iY tg h5,jj h]
 .rw[ak h];have:j=2:=U;subst this;exact uh.symm):p:=h
theorem auL{p:Prop}(h:p:=by
 obtain⟨rfl,rfl⟩|⟨e,_⟩|⟨_,_,ht⟩:=get t g' q ht;.exact⟨_,_,h⟩
 .exact absurd e e1
 .exact⟨_,_,ht⟩):p:=h
theorem auN{p:Prop}(h:p:=by
 subst h3;rw[G]at h;injection h with h;injection h with q1 q2;subst q1;subst q2
 exact⟨_,CF,λq=>absurd Z q,Z⟩):p:=h
theorem auP{p:Prop}(h:p:=by
 have⟨n1,n2,n3,n4⟩:=o.nf q;obtain⟨x,L,D⟩|e|e|e:=D;.exact n1 x L D
 .exact n2 e
 .exact n3 e
 .exact n4 e):p:=h
theorem auQ{p:Prop}(h:p:=by
 have:(a.toNat+1)*P<=b.toNat*P:=aM _ h;rw[bC]at this;constructor;.intro _;left;omega
 .intro _;exact .inl h):p:=h
theorem auR{p:Prop}(h:p:=by
 cases qN s with
 |none=>rfl
 |some dn=>cases eD h 1 x<;>rfl):p:=h
theorem auS{p:Prop}(h:p:=by
 simp[Builtin.delete_,Kt,run_underlying hu,getObj,setObj,Sem.run,hg,run_checkKey sD pd,run_findKey sD F]):p:=h
theorem auT{p:Prop}(h:p:=by
 rintro b (e|e|e|⟨e,V,_⟩);.have e:b=cC:=e;omega
 .have e:b=ab:=e;omega
 .have e:b=mb:=e;omega
 .cases V):p:=h
theorem auU{p:Prop}(h:p:=by
 have:∀j,bv ([]:aY) j=0:=λj=>by
  induction j with
  |zero=>rfl
  |succ j ih=>rw[bv,ih];rfl
 exact this _):p:=h
theorem auV{p:Prop}(h:p:=by
 have⟨g,hg,_,e2,_⟩:=fO hf;rw[<-e2];exact o.tk.d3 g hg):p:=h
theorem auW{p:Prop}(h:p:=by
 rw[e,df]at h;rw[k6,df];have:(hc.take (O l))[i]?=hc[i]?:=by rw[eQ,au H]
 rw[<-this,h];simp[List.getD,H]):p:=h
theorem auX{p:Prop}(h:p:=by
 cases mi with
 |ofNat q=>simp only[nI]at hm⊢;split at hm<;>simp_all;omega
 |negSucc q=>simp[nI]at hm):p:=h
theorem auY{p:Prop}(h:p:=by
 cases eM ops s o with
 |none=>rfl
 |some b=>cases b<;>rfl):p:=h
theorem auZ{p:Prop}(h:p:=by
 obtain h|h|h:=cF a.toNat b.toNat;.exact .inl (dN.2 h)
 .exact .inr (.inl (fH.1 h))
 .exact FF (dN.2 h)):p:=h
theorem ava{p:Prop}(h:p:=by
 obtain q|q:=gP.p.bl c A;.have:=zyQ.tk.dL q;omega
 .omega):p:=h
theorem avc{p:Prop}(h:p:=by
 have uP:=hF.round;rw[pU]at uP;cases CJ:f.roundOf with
 |none=>rfl
 |some _=>rw[CJ]at uP;exact uP.elim):p:=h
theorem avd{p:Prop}(h:p:=by
 obtain V|V:=bN.1 V;.exact o.tk.d3 e V
 .simp only[aV]at V;subst V;have:=o.tk.lt;show bT≠t.tb;omega):p:=h
theorem ave{p:Prop}(h:p:=by
 rename_i cD;rw[zxQ.get hd];split;.rfl
 .rename_i hz;rw[lZ U,ak];intro e;exact cD (zxQ.inj hd x U hz)):p:=h
theorem avf{p:Prop}(h:p:=by
 split at V
 .rename_i hd hz;injection V with V;subst V
  exact⟨hd,jy P _ _ hz w,.g hd⟩
 .cases V):p:=h
theorem avg{p:Prop}(h:p:=by
 refine⟨k',?_,F⟩;show(if id==Cg then J k else pj Cg k)=J k';rw[ak (by simpa using Jg)];exact W):p:=h
theorem avh{p:Prop}(h:p:=by
 exact show n.ay=M↔_ from I.ay _ _ _ G):p:=h
theorem avi{p:Prop}(h:p:=by
 injection V with V;subst V
 cases L<;>exact⟨_,by simp[Builtin.len_,run_underlying hu],.g _⟩):p:=h
theorem avj{p:Prop}(h:p:=by
 have⟨vs,va,cf,kg,_⟩:=oL hr D hq;exact Ba va cf λj v hj=>by have:=kg j v hj;rwa[jN]at this):p:=h
theorem avk{p:Prop}(h:p:=by
 refine .eE (aG.refl.set (an _)) (.cw (.mC trivial trivial)) ?_;unfold Nd.has;rw[<-hip];simp[K]):p:=h
theorem avl{p:Prop}(h:p:=by
 obtain⟨_,rfl⟩:=get s g n h;exact λh=>by cases h):p:=h
theorem avm{p:Prop}(h:p:=by
 obtain q|q|q:=D;.exact(nb b q).imp .inl (·.1)
 .exact .inl (.inr (.inl q))
 .exact .inl (FF q)):p:=h
theorem avn{p:Prop}(h:p:=by
 obtain q|q:=i1 _ q;.injection q with q;omega
 .omega):p:=h
theorem avo{p:Prop}(h:p:=by
 cases N h b with
 |none=>rfl
 |some o=>cases o<;>rfl):p:=h
theorem avp{p:Prop}(h:p:=by
 rw[hh,Sr]at x4;injection x4 with x4;injection x4 with x4 _
 simp[Nd.cells,Nd.left,qd]at x4):p:=h
theorem avq{p:Prop}(h:p:=by
 exact⟨⟨_,_,_,_,Z⟩,wr,by rw[hS];exact kQ.wrap oS TS SB2 U (λc A=>by rw[Xg,Xg]) U⟩):p:=h
theorem avr{p:Prop}(h:p:=by
 simp[execOp,HH,hk,Instr.indexAt,Instr.sureAddr,asIntOf,run_underlying hu,h0,W,eU G,jN]):p:=h
theorem FF{a b p:Prop}(h:p):a\/b\/p:=.inr (.inr h)
theorem Fe{a b c p:Prop}(h:p):a\/b\/c\/p:=.inr (.inr (.inr h))
theorem Fg{a b c d p:Prop}(h:p):a\/b\/c\/d\/p:=.inr (.inr (.inr (.inr h)))
theorem Fk{a b c d e p:Prop}(h:p):a\/b\/c\/d\/e\/p:=.inr (.inr (.inr (.inr (.inr h))))
theorem Fl{a b c d e f p:Prop}(h:p):a\/b\/c\/d\/e\/f\/p:=.inr (.inr (.inr (.inr (.inr (.inr h)))))
theorem Fp{a b c d e f g p:Prop}(h:p):a\/b\/c\/d\/e\/f\/g\/p:=.inr (.inr (.inr (.inr (.inr (.inr (.inr h))))))
theorem EB{p a:Prop}(h:a)(e:a->p:=by intro h;omega):p:=e h
theorem Es{p a:Prop}(h:a)(e:a->p:=by intro h;rw[h];omega):p:=e h
theorem QZ{p q:Prop}(h:q)(e:p=q:=by simp+decide-dsimp only[go_sem,Nat.reduceAdd,Nat.reduceMul];exact Z):p:=(e)▸h
theorem VU{p:Prop}(e:p:=by simp+decide-dsimp only[go_sem,Nat.reduceAdd,Nat.reduceMul]):p:=e
theorem Xf{p q:Prop}{A_:Prop}(a:A_)(h:q)(e:A_->p=q:=by intro a;simp+decide-dsimp only[go_sem,Nat.reduceAdd,Nat.reduceMul,a];exact Z):p:=(e a)▸h
theorem Xa{p:Prop}{A_:Prop}(a:A_)(e:A_->p:=by intro a;simp+decide-dsimp only[go_sem,Nat.reduceAdd,Nat.reduceMul,a]):p:=e a
theorem Y8{p q:Prop}{A_ B_:Prop}(a:A_)(b:B_)(h:q)(e:A_->B_->p=q:=by intro a b;simp+decide-dsimp only[go_sem,Nat.reduceAdd,Nat.reduceMul,a,b];exact Z):p:=(e a b)▸h
theorem Uq{p:Prop}{A_ B_:Prop}(a:A_)(b:B_)(e:A_->B_->p:=by intro a b;simp+decide-dsimp only[go_sem,Nat.reduceAdd,Nat.reduceMul,a,b]):p:=e a b
theorem J7{p q:Prop}{A_ B_ C_:Prop}(a:A_)(b:B_)(c:C_)(h:q)(e:A_->B_->C_->p=q:=by intro a b c;simp+decide-dsimp only[go_sem,Nat.reduceAdd,Nat.reduceMul,a,b,c];exact Z):p:=(e a b c)▸h
theorem J9{p:Prop}{A_ B_ C_:Prop}(a:A_)(b:B_)(c:C_)(e:A_->B_->C_->p:=by intro a b c;simp+decide-dsimp only[go_sem,Nat.reduceAdd,Nat.reduceMul,a,b,c]):p:=e a b c
theorem L6{p q:Prop}{A_ B_ C_ D_:Prop}(a:A_)(b:B_)(c:C_)(d:D_)(h:q)(e:A_->B_->C_->D_->p=q:=by intro a b c d;simp+decide-dsimp only[go_sem,Nat.reduceAdd,Nat.reduceMul,a,b,c,d];exact Z):p:=(e a b c d)▸h
theorem Lg{p:Prop}{A_ B_ C_ D_:Prop}(a:A_)(b:B_)(c:C_)(d:D_)(e:A_->B_->C_->D_->p:=by intro a b c d;simp+decide-dsimp only[go_sem,Nat.reduceAdd,Nat.reduceMul,a,b,c,d]):p:=e a b c d
theorem PV{p q:Prop}{A_ B_ C_ D_ F_:Prop}(a:A_)(b:B_)(c:C_)(d:D_)(f:F_)(h:q)(e:A_->B_->C_->D_->F_->p=q:=by intro a b c d f;simp+decide-dsimp only[go_sem,Nat.reduceAdd,Nat.reduceMul,a,b,c,d,f];exact Z):p:=(e a b c d f)▸h
theorem Tg{p:Prop}{A_ B_ C_ D_ F_:Prop}(a:A_)(b:B_)(c:C_)(d:D_)(f:F_)(e:A_->B_->C_->D_->F_->p:=by intro a b c d f;simp+decide-dsimp only[go_sem,Nat.reduceAdd,Nat.reduceMul,a,b,c,d,f]):p:=e a b c d f
theorem RC{p q:Prop}{A_ B_ C_ D_ F_ G_:Prop}(a:A_)(b:B_)(c:C_)(d:D_)(f:F_)(g:G_)(h:q)(e:A_->B_->C_->D_->F_->G_->p=q:=by intro a b c d f g;simp+decide-dsimp only[go_sem,Nat.reduceAdd,Nat.reduceMul,a,b,c,d,f,g];exact Z):p:=(e a b c d f g)▸h
theorem asE{p:Prop}{A_ B_ C_ D_ F_ G_:Prop}(a:A_)(b:B_)(c:C_)(d:D_)(f:F_)(g:G_)(e:A_->B_->C_->D_->F_->G_->p:=by intro a b c d f g;simp+decide-dsimp only[go_sem,Nat.reduceAdd,Nat.reduceMul,a,b,c,d,f,g]):p:=e a b c d f g
theorem YM{p q:Prop}{A_ B_ C_ D_ F_ G_ I_:Prop}(a:A_)(b:B_)(c:C_)(d:D_)(f:F_)(g:G_)(i:I_)(h:q)(e:A_->B_->C_->D_->F_->G_->I_->p=q:=by intro a b c d f g i;simp+decide-dsimp only[go_sem,Nat.reduceAdd,Nat.reduceMul,a,b,c,d,f,g,i];exact Z):p:=(e a b c d f g i)▸h
theorem asF{p:Prop}{A_ B_ C_ D_ F_ G_ I_:Prop}(a:A_)(b:B_)(c:C_)(d:D_)(f:F_)(g:G_)(i:I_)(e:A_->B_->C_->D_->F_->G_->I_->p:=by intro a b c d f g i;simp+decide-dsimp only[go_sem,Nat.reduceAdd,Nat.reduceMul,a,b,c,d,f,g,i]):p:=e a b c d f g i
theorem Ik{p q:Prop}{A_ B_ C_ D_ F_ G_ I_ J_:Prop}(a:A_)(b:B_)(c:C_)(d:D_)(f:F_)(g:G_)(i:I_)(j:J_)(h:q)(e:A_->B_->C_->D_->F_->G_->I_->J_->p=q:=by intro a b c d f g i j;simp+decide-dsimp only[go_sem,Nat.reduceAdd,Nat.reduceMul,a,b,c,d,f,g,i,j];exact Z):p:=(e a b c d f g i j)▸h
theorem asG{p:Prop}{A_ B_ C_ D_ F_ G_ I_ J_:Prop}(a:A_)(b:B_)(c:C_)(d:D_)(f:F_)(g:G_)(i:I_)(j:J_)(e:A_->B_->C_->D_->F_->G_->I_->J_->p:=by intro a b c d f g i j;simp+decide-dsimp only[go_sem,Nat.reduceAdd,Nat.reduceMul,a,b,c,d,f,g,i,j]):p:=e a b c d f g i j
theorem asA{p q:Prop}{A_ B_ C_ D_ F_ G_ I_ J_ K_:Prop}(a:A_)(b:B_)(c:C_)(d:D_)(f:F_)(g:G_)(i:I_)(j:J_)(k:K_)(h:q)(e:A_->B_->C_->D_->F_->G_->I_->J_->K_->p=q:=by intro a b c d f g i j k;simp+decide-dsimp only[go_sem,Nat.reduceAdd,Nat.reduceMul,a,b,c,d,f,g,i,j,k];exact Z):p:=(e a b c d f g i j k)▸h
theorem asH{p:Prop}{A_ B_ C_ D_ F_ G_ I_ J_ K_:Prop}(a:A_)(b:B_)(c:C_)(d:D_)(f:F_)(g:G_)(i:I_)(j:J_)(k:K_)(e:A_->B_->C_->D_->F_->G_->I_->J_->K_->p:=by intro a b c d f g i j k;simp+decide-dsimp only[go_sem,Nat.reduceAdd,Nat.reduceMul,a,b,c,d,f,g,i,j,k]):p:=e a b c d f g i j k
theorem asB{p q:Prop}{A_ B_ C_ D_ F_ G_ I_ J_ K_ L_:Prop}(a:A_)(b:B_)(c:C_)(d:D_)(f:F_)(g:G_)(i:I_)(j:J_)(k:K_)(l:L_)(h:q)(e:A_->B_->C_->D_->F_->G_->I_->J_->K_->L_->p=q:=by intro a b c d f g i j k l;simp+decide-dsimp only[go_sem,Nat.reduceAdd,Nat.reduceMul,a,b,c,d,f,g,i,j,k,l];exact Z):p:=(e a b c d f g i j k l)▸h
theorem asI{p:Prop}{A_ B_ C_ D_ F_ G_ I_ J_ K_ L_:Prop}(a:A_)(b:B_)(c:C_)(d:D_)(f:F_)(g:G_)(i:I_)(j:J_)(k:K_)(l:L_)(e:A_->B_->C_->D_->F_->G_->I_->J_->K_->L_->p:=by intro a b c d f g i j k l;simp+decide-dsimp only[go_sem,Nat.reduceAdd,Nat.reduceMul,a,b,c,d,f,g,i,j,k,l]):p:=e a b c d f g i j k l
theorem asC{p q:Prop}{A_ B_ C_ D_ F_ G_ I_ J_ K_ L_ M_:Prop}(a:A_)(b:B_)(c:C_)(d:D_)(f:F_)(g:G_)(i:I_)(j:J_)(k:K_)(l:L_)(m:M_)(h:q)(e:A_->B_->C_->D_->F_->G_->I_->J_->K_->L_->M_->p=q:=by intro a b c d f g i j k l m;simp+decide-dsimp only[go_sem,Nat.reduceAdd,Nat.reduceMul,a,b,c,d,f,g,i,j,k,l,m];exact Z):p:=(e a b c d f g i j k l m)▸h
theorem asJ{p:Prop}{A_ B_ C_ D_ F_ G_ I_ J_ K_ L_ M_:Prop}(a:A_)(b:B_)(c:C_)(d:D_)(f:F_)(g:G_)(i:I_)(j:J_)(k:K_)(l:L_)(m:M_)(e:A_->B_->C_->D_->F_->G_->I_->J_->K_->L_->M_->p:=by intro a b c d f g i j k l m;simp+decide-dsimp only[go_sem,Nat.reduceAdd,Nat.reduceMul,a,b,c,d,f,g,i,j,k,l,m]):p:=e a b c d f g i j k l m
theorem asD{p q:Prop}{A_ B_ C_ D_ F_ G_ I_ J_ K_ L_ M_ N_:Prop}(a:A_)(b:B_)(c:C_)(d:D_)(f:F_)(g:G_)(i:I_)(j:J_)(k:K_)(l:L_)(m:M_)(n:N_)(h:q)(e:A_->B_->C_->D_->F_->G_->I_->J_->K_->L_->M_->N_->p=q:=by intro a b c d f g i j k l m n;simp+decide-dsimp only[go_sem,Nat.reduceAdd,Nat.reduceMul,a,b,c,d,f,g,i,j,k,l,m,n];exact Z):p:=(e a b c d f g i j k l m n)▸h
theorem asK{p:Prop}{A_ B_ C_ D_ F_ G_ I_ J_ K_ L_ M_ N_:Prop}(a:A_)(b:B_)(c:C_)(d:D_)(f:F_)(g:G_)(i:I_)(j:J_)(k:K_)(l:L_)(m:M_)(n:N_)(e:A_->B_->C_->D_->F_->G_->I_->J_->K_->L_->M_->N_->p:=by intro a b c d f g i j k l m n;simp+decide-dsimp only[go_sem,Nat.reduceAdd,Nat.reduceMul,a,b,c,d,f,g,i,j,k,l,m,n]):p:=e a b c d f g i j k l m n
theorem Mf{p a:Prop}(h:a)(e:a->p:=by intro h;simpa using h):p:=e h
theorem U{p:Prop}(h:p:=by omega):p:=h
theorem aK{p:Prop}(h:p:=by kernel_rfl):p:=h
theorem bS{p:Prop}(h:p:=by decide):p:=h
theorem bR{p:Prop}(h:p:=by simp):p:=h
theorem gr{p:Prop}(h:p:=by simp;omega):p:=h
theorem gN{p:Prop}(h:p:=by simp[Op.operands]):p:=h
theorem iA{p:Prop}(h:p:=by rw[aj,au Z]):p:=h
theorem qI{p:Prop}(h:p:=by rw[wrap_i64 (by omega) (by omega)];omega):p:=h
theorem Ce{p:Prop}(h:p:=by rw[aj,ak (by omega)]):p:=h
inductive BT(α:Type)where
 |nil
 |node (v:Option α) (l r:BT α)
namespace BT
variable{α:Type}
def val:BT α->Option α
 |nil=>B
 |node v _ _=>v
def left:BT α->BT α
 |nil=>nil
 |node _ l _=>l
def right:BT α->BT α
 |nil=>nil
 |node _ _ r=>r
def get(t:BT α):Nat->Option α:=
 BT.rec (motive:=λ_=>Nat->Option α) (λ_=>B)
  (λv _ _ ihl ihr n=>Nat.rec (motive:=λ_=>Option α) v
   (λm _=>Bool.rec (motive:=λ_=>Option α) (ihr (Nat.div m (nat_lit 2))) (ihl (Nat.div m (nat_lit 2))) (Nat.beq (Nat.mod m (nat_lit 2)) (nat_lit 0))) n) t
def set(f:Nat):BT α->Nat->α->BT α:=
 Nat.rec (motive:=λ_=>BT α->Nat->α->BT α) (λt _ _=>t)
  (λ_ ih t n a=>BT.rec (motive:=λ_=>BT α)
   (Nat.rec (motive:=λ_=>BT α) (node (J a) nil nil)
    (λm _=>Bool.rec (motive:=λ_=>BT α) (node B nil (ih nil (Nat.div m (nat_lit 2)) a)) (node B (ih nil (Nat.div m (nat_lit 2)) a) nil) (Nat.beq (Nat.mod m (nat_lit 2)) (nat_lit 0))) n)
   (λv l r _ _=>Nat.rec (motive:=λ_=>BT α) (node (J a) l r)
    (λm _=>Bool.rec (motive:=λ_=>BT α) (node v l (ih r (Nat.div m (nat_lit 2)) a)) (node v (ih l (Nat.div m (nat_lit 2)) a) r) (Nat.beq (Nat.mod m (nat_lit 2)) (nat_lit 0))) n) t) f
end BT
inductive u where
 |g (v:Value)
 |ptr (b off:Nat)
 |sl (b off len cap:Nat)
 |og (b off k len:Nat)
 |sle
 |mp (b:Nat)
 |um (b:Nat)
 |fz (len:Nat) (cs:List u)
 |fp (cs:List u)
 |fi (k off:Nat) (cs:List u)
 |e0
 |fn (f:FuncId) (cap:List u)
 |lP (t:TypeId) (v:u)
 |agg (cs:List u)
 |dY (vs:List u)
 deriving Inhabited
abbrev FB:u:=.g (.slice B 0 0)
abbrev FE:u:=.g (.pointer B)
inductive AD where
 |fn (f:FuncId) (cap args:List u)
 |xF (b:Nat)
structure nR where
 state:LoopState
 pending:Option Code
 fn:FuncId
 cX:BT u
 size:Nat
 params:List Tmp
 assign:Code
 body:Code
 defers:Nat
inductive AO where
 |cells (cs:List u) (elem:TypeId)
 |fM (cs:List u) (elem:TypeId) (es:Nat)
 |map (es:List (u×u×Nat)) (clock:Nat)
 |loop (l:nR)
 |defs (calls:Option (List AD))
 |it (b:Nat)
 |dead
abbrev aE:=BT AO
def N(h:aE)(b:Nat):Option AO:=h.get b
abbrev FA(h:aE)(b:Nat)(c:List u)(t:Nat):Prop:=N h b=J (.cells c t)
def aI(h:aE)(b:Nat)(o:AO):aE:=BT.set (b+1) h b o
def sset(t:BT u)(i:Nat)(v:u):BT u:=BT.set (i+1) t i v
def X(t:BT u)(i:Nat):u:=match t.get i with|some v=>v|none=> .g undef
mutual
def u.pV:u->Option Value
 | .g v=>J v
 | .agg cs=>match u.FH cs with|some l=>J (.agg l.toArray)|none=>B
 | .lP t v=>match u.pV v with|some AV=>J (.iface t AV)|none=>B
 |_=>B
def u.FH:List u->Option (List Value)
 |[]=>J []
 |a::as=>match u.pV a with
  |some v=>match u.FH as with
   |some l=>J (v::l)
   |none=>B
  |none=>B
end
def u.cells:u->Option (List u)
 | .agg cs=>J cs
 | .g (.agg cs)=>J (cs.toList.map .g)
 | .dY _=>B
 | .g (.tuple _)=>B
 |v=>J [v]
def u.dh:u->Bool
 | .agg _| .dY _| .g (.agg _)| .g (.tuple _)=>R
 |_=>M
def bM{α:Type}(P:Program):Sem α->Option α
 | .pure a=>J a
 | .program k=>bM P (k P)
 | .mark _ k=>bM P k
 |_=>B
def TY(n:Int):Bool:=decide (-9223372036854775808<=n)&&decide (n<9223372036854775808)
def cO(k:IntKind)(n:Int):Int:=match k with
 | .i64=>if TY n then n else k.wrap n
 |k=>k.wrap n
def dC{α:Type}(n:Nat):List α->Option (List α):=
 Nat.rec (motive:=λ_=>List α->Option (List α)) (λ_=>J [])
  (λ_ ih l=>List.rec (motive:=λ_=>Option (List α)) B
   (λa l _=>Option.rec (motive:=λ_=>Option (List α)) B (λr=>J (a::r)) (ih l)) l) n
def dV{α:Type}(n:Nat):List α->Option (List α):=
 Nat.rec (motive:=λ_=>List α->Option (List α)) (λl=>J l)
  (λ_ ih l=>List.rec (motive:=λ_=>Option (List α)) B (λ_ l _=>ih l) l) n
def iS{α:Type}(n:Nat)(l:List α):Option α:=
 List.rec (motive:=λ_=>Nat->Option α) (λ_=>B)
  (λa _ ih n=>Nat.rec (motive:=λ_=>Option α) (J a) (λm _=>ih m) n) l n
def eG{α:Type}(n:Nat):List α->List α->Option (List α):=
 Nat.rec (motive:=λ_=>List α->List α->Option (List α))
  (λl=>List.rec (motive:=λ_=>List α->Option (List α))
   (λvs=>List.rec (motive:=λ_=>Option (List α)) (J []) (λ_ _ _=>B) vs)
   (λa l ih vs=>List.rec (motive:=λ_=>Option (List α)) (J (a::l))
    (λv vs _=>Option.rec (motive:=λ_=>Option (List α)) B (λr=>J (v::r)) (ih vs)) vs) l)
  (λ_ ih l vs=>List.rec (motive:=λ_=>Option (List α)) B
   (λa l _=>Option.rec (motive:=λ_=>Option (List α)) B (λr=>J (a::r)) (ih l vs)) l) n
inductive QR where
 |val (v:u)
 |wF (o:AO)
 |ri (o:AO) (len cap:Nat)
 |AT (o:AO)
def QR.av(r:QR)(id:Nat):u:=match r with
 | .val v=>v
 | .wF _=> .ptr id 0
 | .ri _ len cap=> .sl id 0 len cap
 | .AT _=> .mp id
def AO.cells?:AO->Option (List u)
 | .cells cs _=>J cs
 | .fM cs _ _=>J cs
 |_=>B
def cZ(P:Program)(t:TypeId):Option Nat:=match P.info? t with|some i=>J i.size|none=>B
def lO(P:Program)(t:TypeId):Option Nat:=match P.info? t with|some i=>J i.bytes|none=>B
def zE(P:Program)(t:TypeId):Option Bool:=match P.underlying t with
 |some (.struct _)|some (.array _ _)=>J M
 |some _=>J R
 |none=>B
def dS(P:Program)(t:TypeId):Option (List Value):=match P.info? t with
 |some i=>match i.zero with|some v=>J v.cells.toList|none=>B
 |none=>B
def nE(P:Program)(t:TypeId):Option Value:=match P.info? t with
 |some i=>i.zero
 |none=>B
def dt(h:aE)(b off n:Nat):Option (List u):=match N h b with
 |some o=>match o.cells? with
  |some cs=>match dV off cs with|some r=>dC n r|none=>B
  |none=>B
 |none=>B
def wu(P:Program)(h:aE)(t:TypeId)(a:u):Option u:=match a with
 | .ptr b off=>match zE P t,cZ P t with
  |some M,J n=>match dt h b off n with|some l=>J (.agg l)|none=>B
  |some R,J _=>match N h b with
   |some o=>match o.cells? with|some cs=>iS off cs|none=>B
   |none=>B
  |_,_=>B
 | .fp cs=>match zE P t,cZ P t with
  |some M,J n=>match dC n cs with|some l=>J (.agg l)|none=>B
  |some R,J _=>iS 0 cs
  |_,_=>B
 |_=>B
def mT:u->Option Int
 | .g (.int _ n)=>J n
 |_=>B
def Ec(P:Program)(h:aE)(e:TypeId)(a b:u):Option Bool:=match a with
 | .ptr b1 off=>match b with
  | .ptr b' QK=>match cZ P e with
   |some (_+1)=>
    if b1==b' then J (off==QK)
    else match N h b1 with
     |some o=>match N h b' with
      |some o'=>if o.cells?.isSome&&o'.cells?.isSome then J R else B
      |none=>B
     |none=>B
   |_=>B
  | .g (.pointer B)=>J R
  |_=>B
 | .g (.pointer B)=>match b with
  | .ptr _ _=>J R
  |_=>B
 | .fp _=>match b with
  | .g (.pointer B)=>J R
  |_=>B
 | .fi k o _=>match b with
  | .fi k' o' _=>match cZ P e with
   |some (_+1)=>if k=k'/\o=o' then J M else B
   |_=>B
  | .g (.pointer B)=>J R
  |_=>B
 |_=>B
def Mw:u->Bool
 | .sl .. | .og .. | .sle=>M
 | .fz (_+1) _=>M
 |_=>R
def zP:u->Bool
 | .g (.slice B _ _)=>M
 |_=>R
def Ts:u->Bool
 | .fn .. | .um _=>M
 |_=>R
def FT:u->Bool
 | .g .nilFunc=>M
 |_=>R
def isIf:u->Bool
 | .lP .. =>M
 |_=>R
def GB:u->Bool
 | .g .nilIface=>M
 |_=>R
def adb:u->Bool
 | .mp _=>M
 |_=>R
def F':u->Bool
 | .g (.map B)=>M
 |_=>R
def rP(p q:Bool):Option Bool:=if p||q then J R else B
def wP(P:Program)(h:aE)(t:TypeId)(a b:u):Option Bool:=
 match P.underlying t with
 |some (.pointer e)=>Ec P h e a b
 |some (.slice _)=>rP (Mw a&&zP b) (zP a&&Mw b)
 |some (.map _ _)=>rP (adb a&&F' b) (F' a&&adb b)
 |some (.func _ _ _)=>rP (Ts a&&FT b) (FT a&&Ts b)
 |some (.interface _)=>rP (isIf a&&GB b) (GB a&&isIf b)
 |_=>B
def vf(op:BinOp)(k:IntKind)(m n:Int):Option u:=
 match op with
 | .add=>J (.g (.int k (cO k (m+n))))
 | .sub=>J (.g (.int k (cO k (m-n))))
 | .lss=>J (.g (.bool (decide (m<n))))
 | .leq=>J (.g (.bool (decide (m<=n))))
 | .gtr=>J (.g (.bool (decide (n<m))))
 | .geq=>J (.g (.bool (decide (n<=m))))
 | .eql=>J (.g (.bool (m==n)))
 | .neq=>J (.g (.bool (m !=n)))
 |_=>B
def lH(P:Program)(op:BinOp)(t:TypeId)(x y:Operand)(AV v:Value):Option u:=
 match bM P (do eqGuard op t x y AV v;binOp op t AV v)with
 |some r=>J (.g r)
 |none=>B
def qA(P:Program)(h:aE)(op:BinOp)(t:TypeId)(a b:u):Option u:=
 match op with
 | .eql=>match wP P h t a b with|some r=>J (.g (.bool r))|none=>B
 | .neq=>match wP P h t a b with|some r=>J (.g (.bool (!r)))|none=>B
 |_=>B
def jm(P:Program)(h:aE)(op:BinOp)(t:TypeId)(x y:Operand)(a b:u):Option u:=
 match a.pV with
 |some AV=>match b.pV with
  |some v=>lH P op t x y AV v
  |none=>qA P h op t a b
 |none=>qA P h op t a b
def eX:u->Option (IntKind×Int)
 | .g v=>match v with| .int k n=>J (k,n)|_=>B
 |_=>B
def dE(P:Program)(h:aE)(op:BinOp)(t:TypeId)(x y:Operand)(a b:u):Option u:=
 match eX a with
 |some (k,m)=>match eX b with
  |some (k',n)=>if k=k' then(match vf op k m n with
   |some r=>J r
   |none=>jm P h op t x y a b)else jm P h op t x y a b
  |none=>jm P h op t x y a b
 |none=>jm P h op t x y a b
def pD:List u->Option (List UInt8)
 |[]=>J []
 | .g (.int .u8 n)::l=>match pD l with|some r=>J (UInt8.ofNat n.toNat::r)|none=>B
 |_=>B
def C6(P:Program)(h:aE)(s d:TypeId)(b off len:Nat):Option u:=match P.underlying s with
 |some (.slice e)=>match P.underlying d with
  |some .string=>match P.underlying e with
   |some (.int .u8)=>match dt h b off len with
    |some cs=>match pD cs with|some l=>J (.g (.string ⟨l.toArray⟩))|none=>B
    |none=>B
   |_=>B
  |_=>B
 |_=>B
def xO(P:Program)(h:aE)(s d:TypeId)(b off:Nat):Option u:=match P.underlying s with
 |some (.pointer t)=>match P.underlying d with
  |some .unsafePointer=>match cZ P t with
   |some (_+1)=>match N h b with
    |some (.cells cs _)=>if off<O cs then J (.ptr b off)else B
    |_=>B
   |_=>B
  |_=>B
 |some .unsafePointer=>match P.underlying d with
  |some (.pointer AV)=>match cZ P AV with
   |some _=>match N h b with
    |some (.cells cs e)=>if liesAt P P.depth e (O cs / P.cellsOf e) off AV 1 then J (.ptr b off)else B
    |_=>B
   |none=>B
  |_=>B
 |_=>B
def nA(P:Program)(h:aE)(s d:TypeId)(a:u):Option u:=
 match a with
 | .g v=>match bM P (convert s d v)with|some r=>J (.g r)|none=>B
 | .sl b off len _=>C6 P h s d b off len
 | .og b off _ len=>C6 P h s d b off len
 | .ptr b off=>xO P h s d b off
 |_=>B
def apart(r:Option (Nat×Nat))(vs:Option (List u))(cs:List u):Option (List u):=match r with
 |none=>B
 |some p=>match vs with
  |none=>B
  |some vs=>if O vs=p.2 then eG p.1 cs vs else B
def gl(place:Nat->Option (Nat×Nat))(ev:Operand->u):List (Nat×Operand)->List u->Option (List u)
 |[],cs=>J cs
 |x::rest,cs=>match apart (place x.1) (ev x.2).cells cs with
  |some r=>gl place ev rest r
  |none=>B
def gT{α:Type}:Nat->List α->List α
 |0,_=>[]
 |n+1,l=>l++gT n l
def pJ(len:Nat)(i:Int):Option Nat:=match i with
 | .ofNat n=>if n<len then J n else B
 | .negSucc _=>B
def nI(i:Int)(H:Nat):Option Nat:=match i with
 | .ofNat n=>if n<=H then J n else B
 | .negSucc _=>B
def aR(P:Program)(s:TypeId)(f:Nat):Option Nat:=match P.underlying s with
 |some (.struct fs)=>match fs[f]? with
  |some x=>match cZ P x.type with
   |some (_+1)=>J x.offset
   |_=>B
  |none=>B
 |_=>B
def fieldsOf(P:Program)(s:TypeId):Option (List (Nat×Nat)):=match P.underlying s with
 |some (.struct fs)=>fs.toList.mapM λx=>(P.info? x.type).map λi=>(x.offset,i.size)
 |_=>B
def fX(d H:Nat)(x:Option u):Option Nat:=match x with
 |none=>J d
 |some v=>match mT v with
  |some i=>nI i H
  |none=>B
def ub(size b off len cap:Nat)(lo H:Option u):Option u:=match fX len cap H with
 |some h=>match fX 0 h lo with
  |some l=>J (.sl b (if cap=l then off else off+l*size) (h-l) (cap-l))
  |none=>B
 |none=>B
def adN(size b off k len:Nat)(lo H:Option u):Option u:=match fX len len H with
 |some h=>match fX 0 h lo with
  |some l=>if l<len then J (.og b (off+l*size) (k+l) (h-l))else if l=0 then J (.og b off k (h-l))else J .sle
  |none=>B
 |none=>B
def xI(size len:Nat)(cs:List u)(lo H:Option u):Option u:=match fX len len H with
 |some h=>match fX 0 h lo with
  |some l=>match dV (l*size) cs with
   |some r=>match dC ((h-l)*size) r with
    |some q=>J (.fz (h-l) q)
    |none=>B
   |none=>B
  |none=>B
 |none=>B
def OO(size b off cap:Nat)(mi:Int)(lo:Option u)(H:u):Option u:=match nI mi cap with
 |some m=>match fX 0 m (J H)with
  |some h=>match fX 0 h lo with
   |some l=>J (.sl b (if m=l then off else off+l*size) (h-l) (m-l))
   |none=>B
  |none=>B
 |none=>B
def fz3(size len:Nat)(cs:List u)(mi:Int)(lo:Option u)(H:u):Option u:=match nI mi len with
 |some m=>match fX 0 m (J H)with
  |some h=>match fX 0 h lo with
   |some l=>if m=l then J .e0 else match dV (l*size) cs with
    |some r=>match dC ((h-l)*size) r with
     |some q=>J (.fz (h-l) q)
     |none=>B
    |none=>B
   |none=>B
  |none=>B
 |none=>B
def adS(lo H:Option u):Option u:=match fX 0 0 H with
 |some h=>match fX 0 h lo with
  |some _=>J .sle
  |none=>B
 |none=>B
def UJ:Option u->Option (Option Value)
 |none=>J B
 |some a=>match a.pV with
  |some v=>J (J v)
  |none=>B
def slG(P:Program)(t:TypeId)(v:Value)(lo H:Option u):Option u:=match UJ lo with
 |some lo=>match UJ H with
  |some H=>match bM P (Instr.sliceAt t v lo H B)with
   |some r=>J (.g r)
   |none=>B
  |none=>B
 |none=>B
def fW(P:Program)(t:TypeId)(a:u)(lo H:Option u):Option u:=
 match a with
 | .sl b off len cap=>match P.underlying t with
  |some (.slice e)=>match cZ P e with
   |some size=>ub size b off len cap lo H
   |none=>B
  |_=>B
 | .og b off k len=>match P.underlying t with
  |some (.slice e)=>match cZ P e with
   |some size=>adN size b off k len lo H
   |none=>B
  |_=>B
 | .sle=>match P.underlying t with
  |some (.slice e)=>match cZ P e with
   |some _=>adS lo H
   |none=>B
  |_=>B
 | .fz len cs=>match P.underlying t with
  |some (.slice e)=>match cZ P e with
   |some size=>xI size len cs lo H
   |none=>B
  |_=>B
 | .ptr b off=>match P.underlying t with
  |some (.array n e)=>match cZ P e with
   |some size=>ub size b off n n lo H
   |none=>B
  |_=>B
 | .g v=>slG P t v lo H
 |_=>B
def nU(P:Program)(t:TypeId)(a:u)(lo:Option u)(H mx:u):Option u:=
 match P.underlying t with
 |some (.slice e)=>match cZ P e with
  |some size=>match mT mx with
   |some mi=>match a with
    | .sl b off _ cap=>OO size b off cap mi lo H
    | .og b off _ len=>OO size b off len mi lo H
    | .fz len cs=>fz3 size len cs mi lo H
    | .e0=>fz3 size 0 [] mi lo H
    | .sle=>fz3 size 0 [] mi lo H
    | .g (.slice B 0 0)=>fz3 size 0 [] mi lo H
    |_=>B
   |none=>B
  |none=>B
 |_=>B
def za(kind:TypeDesc)(k a:u):Option Bool:=match k with
 | .g x=>match a with
  | .g y=>Instr.sameNow kind x y
  |_=>B
 |_=>B
def jB(kind:TypeDesc)(k:u):List (u×u×Nat)->Nat->Option (Option (Nat×u))
 |[],_=>J B
 |e::es,i=>
  match za kind k e.1 with
  |some M=>J (J (i,e.2.1))
  |some R=>jB kind k es (i+1)
  |none=>B
def pE(d:TypeDesc):Bool:=match d with
 | .int _=>M
 |_=>R
def mapOf(h:aE):u->Option (List (u×u×Nat))
 | .g (.map B)=>J []
 | .mp b=>match N h b with|some (.map es _)=>J es|_=>B
 |_=>B
def found(hd:Value)(ok:Bool):Option (Option (Nat×u))->Option u
 |some (J x)=>J (if ok then .dY [x.2,.g (.bool M)]else x.2)
 |some B=>J (if ok then .dY [.g hd,.g (.bool R)]else .g hd)
 |none=>B
def nS(P:Program)(h:aE)(t:TypeId)(a k:u)(ok:Bool):Option u:=
 match P.underlying t with
 |some (.map kt et)=>match P.underlying kt with
  |some kd=>match nE P et with
   |some hd=>if pE kd then(match mapOf h a with
    |some es=>found hd ok (jB kd k es 0)
    |none=>B)else B
   |none=>B
  |none=>B
 |_=>B
def Td{α:Type}(f:α->α):Nat->List α->List α
 |_,[]=>[]
 |0,a::l=>f a::l
 |n+1,a::l=>a::Td f n l
def yZ(h:aE)(b:Nat)(es:List (u×u×Nat))(clock:Nat)(k v:u):Option (Option (Nat×u))->Option aE
 |some (J x)=>J (aI h b (.map (Td (λe=>(k,v,e.2.2)) x.1 es) clock))
 |some B=>J (aI h b (.map (es++[(k,v,clock)]) (clock+1)))
 |none=>B
def sv(P:Program)(h:aE)(t:TypeId)(m k v:u):Option aE:=
 match P.underlying t with
 |some (.map kt _)=>match P.underlying kt with
  |some kd=>if pE kd then(match m with
   | .mp b=>match N h b with
    |some (.map es clock)=>yZ h b es clock k v (jB kd k es 0)
    |_=>B
   |_=>B)else B
  |none=>B
 |_=>B
def JE(P:Program)(t:TypeId)(h:aE)(a:u):Option u:=match P.underlying t with
 |some .string=>match a with
  | .g (.string s)=>J (.g (goInt s.size))
  |_=>B
 |some (.slice _)=>match a with
  | .g (.slice _ n _)=>J (.g (goInt n))
  | .sl _ _ n _=>J (.g (goInt n))
  | .og _ _ _ n=>J (.g (goInt n))
  | .sle=>J (.g (goInt 0))
  | .fz n _=>J (.g (goInt n))
  | .e0=>J (.g (goInt 0))
  |_=>B
 |some (.map _ _)=>match a with
  | .g (.map B)=>J (.g (goInt 0))
  | .mp b=>match N h b with|some (.map es _)=>J (.g (goInt (O es)))|_=>B
  |_=>B
 |_=>B
def qv(r:Option u):Option QR:=match r with|some x=>J (.val x)|none=>B
def Gd(c a b:u):Option QR:=match c with
 | .g (.bool t)=>J (.val (if t then a else b))
 |_=>B
def So:u->Option QR
 | .ptr b off=>J (.val (.ptr b off))
 | .fp cs=>J (.val (.fp cs))
 | .lP t AV=>J (.val (.lP t AV))
 | .fn f c=>J (.val (.fn f c))
 |_=>B
def Bb(P:Program)(s:TypeId)(f:Nat):u->Option QR
 | .ptr b off=>match aR P s f with
  |some n=>J (.val (.ptr b (off+n)))
  |none=>B
 | .fp cs=>match aR P s f with
  |some n=>match dV n cs with|some l=>J (.val (.fp l))|none=>B
  |none=>B
 |_=>B
def Q2(i:Nat):u->Option QR
 | .dY vs=>qv (iS i vs)
 |_=>B
def wq(P:Program)(e:TypeId)(b off len:Nat)(i:u):Option QR:=match mT i with
 |some n=>match pJ len n with
  |some m=>match cZ P e with
   |some size=>J (.val (.ptr b (off+m*size)))
   |none=>B
  |none=>B
 |none=>B
def Dk(P:Program)(e:TypeId)(cs:List u)(len:Nat)(i:u):Option QR:=match mT i with
 |some n=>match pJ len n with
  |some m=>match cZ P e with
   |some size=>match dV (m*size) cs with|some l=>J (.val (.fp l))|none=>B
   |none=>B
  |none=>B
 |none=>B
def Nt(P:Program)(t:TypeId)(x i:u):Option QR:=match P.underlying t with
 |some (.slice e)=>match x with
  | .sl b off len _=>wq P e b off len i
  | .og b off _ len=>wq P e b off len i
  | .fz len cs=>Dk P e cs len i
  |_=>B
 |some (.array len e)=>match x with
  | .ptr b off=>wq P e b off len i
  | .fp cs=>Dk P e cs len i
  |_=>B
 |_=>B
def qUn(P:Program)(op:UnOp)(x:u):Option QR:=match x.pV with
 |some AV=>match bM P (Op.unary op AV)with|some r=>J (.val (.g r))|none=>B
 |none=>B
def so(P:Program)(t:TypeId)(x i:u):Option QR:=match x.pV with
 |some a=>match i.pV with
  |some b=>match bM P (Instr.index t a b)with|some r=>J (.val (.g r))|none=>B
  |none=>B
 |none=>B
def mH(P:Program)(t:TypeId)(x:u):Option QR:=match P.underlying t with
 |some (.interface _)|none=>B
 |some _=>J (.val (.lP t x))
def qFn(fn:Fn)(first cap:Array Operand)(ev:Operand->u):Option QR:=match fn with
 | .func f=>match first.toList with
  |[]=>J (.val (.fn f (cap.toList.map ev)))
  |_=>B
 |_=>B
def Ae(P:Program)(elem:TypeId):Option QR:=match dS P elem with
 |some hd=>J (.wF (.cells (hd.map .g) elem))
 |none=>B
def Tc(elem:TypeId)(x:u):Option QR:=match x.cells with
 |some cs=>J (.wF (.cells cs elem))
 |none=>B
def Kq(r:Option (List u)):Option QR:=match r with
 |some cs=>J (.val (.agg cs))
 |none=>B
def vW(P:Program)(ev:Operand->u)(t:TypeId)(parts:List (Nat×Operand)):Option QR:=match dS P t with
 |some hd=>match P.underlying t with
  |some (.struct _)=>match fieldsOf P t with
   |some fs=>Kq (gl (λi=>iS i fs) ev parts (hd.map .g))
   |none=>B
  |some (.array _ e)=>match cZ P e with
   |some size=>Kq (gl (λi=>J (i*size,size)) ev parts (hd.map .g))
   |none=>B
  |_=>B
 |none=>B
def ig(e:TypeId)(len:Nat)(r:Option (List u)):Option QR:=match r with
 |some cs=>J (.ri (.cells cs e) len len)
 |none=>B
def gI(P:Program)(ev:Operand->u)(t:TypeId)(len:Nat)(parts:List (Nat×Operand)):Option QR:=match P.underlying t with
 |some (.slice e)=>match cZ P e with
  |some size=>match dS P e with
   |some hd=>if decide (len*size<=4096)&&O hd==size then ig e len (gl (λi=>J (i*size,size)) ev parts (gT len (hd.map .g)))else B
   |none=>B
  |none=>B
 |_=>B
def WB(P:Program)(t:TypeId)(r:Option u):Option QR:=match r with
 |none=>J (.AT (.map [] 0))
 |some v=>match P.underlying t with
  |some (.map _ _)=>match eX v with
   |some _=>J (.AT (.map [] 0))
   |none=>B
  |_=>B
def PZ(P:Program)(e:TypeId)(l c:Nat):Option QR:=match cZ P e with
 |some size=>match lO P e with
  |some bytes=>match dS P e with
   |some hd=>if decide (l<=c)&&decide (c<=65536)&&decide (bytes<=65536)&&O hd==size then J (.ri (.cells (gT c (hd.map .g)) e) l c)else B
   |none=>B
  |none=>B
 |none=>B
def QF(a:u):Option Nat:=match mT a with
 |some (.ofNat n)=>J n
 |_=>B
def sg(P:Program)(t:TypeId)(l c:u):Option QR:=match P.underlying t with
 |some (.slice e)=>match QF l with
  |some l=>match QF c with
   |some c=>PZ P e l c
   |none=>B
  |none=>B
 |_=>B
def Uy:u->Option QR
 | .sl _ _ _ c=>J (.val (.g (goInt c)))
 | .g (.slice _ _ c)=>J (.val (.g (goInt c)))
 |_=>B
def Xp(P:Program)(x y:u):Option QR:=match x.pV with
 |some a=>match y.pV with
  |some b=>match bM P (Builtin.min2 a b)with|some r=>J (.val (.g r))|none=>B
  |none=>B
 |none=>B
def Sh(P:Program)(x y:u):Option QR:=match x.pV with
 |some a=>match y.pV with
  |some b=>match bM P (Builtin.max2 a b)with|some r=>J (.val (.g r))|none=>B
  |none=>B
 |none=>B
def wM(P:Program)(h:aE)(ev:Operand->u)(c:Call):Option QR:=match c.callee with
 | .builtin b=>match c.args.toList with
  |[x]=>match c.argTypes.toList with
   |[t]=>match b with
    | .len=>qv (JE P t h (ev x))
    | .cap=>match P.underlying t with
     |some (.slice _)=>Uy (ev x)
     |_=>B
    |_=>B
   |_=>B
  |[x,y]=>match b with
   | .min=>Xp P (ev x) (ev y)
   | .max=>Sh P (ev x) (ev y)
   |_=>B
  |_=>B
 |_=>B
def A0(P:Program)(t:TypeId)(x:u)(lo H mx:Option u):Option QR:=match mx with
 |none=>qv (fW P t x lo H)
 |some m=>match H with
  |some h=>qv (nU P t x lo h m)
  |none=>B
def kH(P:Program)(x:u)(t:TypeId)(ok:Bool):Option QR:=match x with
 | .lP t' v=>match P.underlying t with
  |some (.interface _)=>B
  |some _=>if ok then(if t'=t then J (.val (.dY [v,.g (.bool M)]))else match nE P t with
   |some hd=>J (.val (.dY [.g hd,.g (.bool R)]))
   |none=>B)
   else if t'=t then J (.val v)else B
  |none=>B
 |_=>B
def Bf(P:Program)(t:TypeId)(h:aE)(x:u):Option QR:=match P.underlying t with
 |some (.map _ _)=>match x with
  | .mp b=>match N h b with
   |some (.map _ _)=>J (.wF (.it b))
   |_=>B
  |_=>B
 |_=>B
def KI:Option AO->Option QR
 |some (.map [] _)=>J (.val (.dY [.g (.bool R)]))
 |_=>B
def BS(h:aE)(x:u)(s:Bool):Option QR:=match s with
 |true=>B
 |false=>match x with
  | .ptr b 0=>match N h b with
   |some (.it m)=>KI (N h m)
   |_=>B
  |_=>B
def en(P:Program)(h:aE)(ev:Operand->u)(o:Oper):Option QR:=
 (match o.op with
 | .move x=>λ_ _ ev=>J (.val (ev x))
 | .pick c a b=>λ_ _ ev=>Gd (ev c) (ev a) (ev b)
 | .load t a=>λP h ev=>qv (wu P h t (ev a))
 | .nilCheck x=>λ_ _ ev=>So (ev x)
 | .fieldAddr s x f=>λP _ ev=>Bb P s f (ev x)
 | .binOp op t x y _=>λP h ev=>qv (dE P h op t x y (ev x) (ev y))
 | .extract x i=>λ_ _ ev=>Q2 i (ev x)
 | .indexAddr t x i=>λP _ ev=>Nt P t (ev x) (ev i)
 | .unOp op _ x=>λP _ ev=>qUn P op (ev x)
 | .convert s d x=>λP h ev=>qv (nA P h s d (ev x))
 | .index t x i=>λP _ ev=>so P t (ev x) (ev i)
 | .slice t x lo H mx=>λP _ ev=>A0 P t (ev x) (lo.map ev) (H.map ev) (mx.map ev)
 | .typeAssert x _ t ok=>λP _ ev=>kH P (ev x) t ok
 | .makeInterface t x=>λP _ ev=>mH P t (ev x)
 | .makeFunc fn first cap=>λ_ _ ev=>qFn fn first cap ev
 | .lookup t x i ok=>λP h ev=>qv (nS P h t (ev x) (ev i) ok)
 | .alloc elem=>λP _ _=>Ae P elem
 | .box elem x=>λ_ _ ev=>Tc elem (ev x)
 | .build t parts=>λP _ ev=>vW P ev t parts.toList
 | .buildSlice t len parts=>λP _ ev=>gI P ev t len parts.toList
 | .makeMap t r=>λP _ ev=>WB P t (r.map ev)
 | .makeSlice t l c=>λP _ ev=>sg P t (ev l) (ev c)
 | .range t x=>λP h ev=>Bf P t h (ev x)
 | .next it s=>λ_ h ev=>BS h (ev it) s
 | .call c=>λP h ev=>wM P h ev c
 |_=>λ_ _ _=>B:Program->aE->(Operand->u)->Option QR) P h ev
def aac(c:Call):Bool:=match c.callee with
 | .builtin .len| .builtin .cap| .builtin .min| .builtin .max=>R
 |_=>M
def cH:Op->Bool
 | .assign _| .store .. | .mapUpdate .. | .insert .. | .defer _=>M
 | .call c=>aac c
 |_=>R
inductive Ext where
 |cmp|O0 (t:TypeId)|load (t:Extern.Atomic.T)|store|cas (t:Extern.Atomic.T)|add (k:IntKind)|mark1|mark0
inductive ER where
 |val (v:u) (h:aE)
 |rf (o:AO) (len:Nat) (h:aE)
 |enter (f:FuncId) (args:List u)
 |defer (d:AD)
 |round (l:Nat) (args:List u)
def fL(h:aE)(b off:Nat)(vs:List u):Option aE:=match N h b with
 |some (.cells cs e)=>match eG off cs vs with|some r=>J (aI h b (.cells r e))|none=>B
 |some (.fM cs e es)=>match eG off cs vs with|some r=>J (aI h b (.fM r e es))|none=>B
 |_=>B
def eD(h:aE)(size:Nat):u->Option (Nat×List u)
 | .g (.slice B n _)=>if n=0 then J (0,[])else B
 | .sl b off len _=>match dt h b off (len*size)with|some l=>J (len,l)|none=>B
 | .og b off _ len=>match dt h b off (len*size)with|some l=>J (len,l)|none=>B
 | .sle=>J (0,[])
 | .e0=>J (0,[])
 | .fz n cs=>if O cs=n*size then J (n,cs)else B
 |_=>B
def RL(P:Program)(h:aE)(size:Nat)(hd:List u)(t':TypeId)(x:u):Option (Nat×List u):=
 match P.underlying t' with
 |some (.int _)=>match QF x with
  |some n=>J (n,gT n hd)
  |none=>B
 |some (.slice _)=>eD h size x
 |_=>B
def yA(h:aE)(s:u):Option ER:=match s with
 | .sl b off len cap=>if len<=cap then J (.val (.sl b off len cap) h)else B
 | .og b off k len=>J (.val (.og b off k len) h)
 | .g (.slice B 0 0)=>J (.val s h)
 | .e0=>J (.val .e0 h)
 | .fz n cs=>J (.val (.fz n cs) h)
 |_=>B
def TW(h:aE)(e:TypeId)(size b off len cap n:Nat)(new:List u):Option ER:=
 if len+n<=cap then(if new.all u.dh then(match fL h b (off+len*size) new with
  |some Q=>J (.val (.sl b off (len+n) cap) Q)
  |none=>B)else B)
 else if 65536<=len+n then B else match dt h b off (len*size)with
  |some old=>J (.rf (.fM (old++new) e size) (len+n) h)
  |none=>B
def Ww(h:aE)(e:TypeId)(size b off k len n:Nat)(new:List u):Option ER:=match N h b with
 |some (.fM cs e' es)=>
  if es=size/\off=k*size/\e'=e then
   if !new.all u.dh then B else
   if off+(len+n)*size<=O cs then(match fL h b (off+len*size) new with
    |some Q=>J (.val (.og b off k (len+n)) Q)
    |none=>B)
   else if O cs=off+len*size/\k=0/\len+n<65536 then J (.rf (.fM (cs++new) e size) (len+n) (aI h b .dead))
   else B
  else B
 |_=>B
def qV(h:aE)(e:TypeId)(size n:Nat)(new:List u)(s:u):Option ER:=
 if n=0 then yA h s else match s with
 | .g (.slice B 0 0)=>J (.rf (.fM new e size) n h)
 | .e0=>J (.rf (.fM new e size) n h)
 | .sl b off len cap=>TW h e size b off len cap n new
 | .og b off k len=>Ww h e size b off k len n new
 |_=>B
def RM(size bytes n:Nat)(hd:List Value):Bool:=decide (0<size)&&decide (0<bytes)&&decide (bytes<65536)&&decide (n<65536)&&O hd==size
def UU(P:Program)(h:aE)(e t':TypeId)(s x:u):Option ER:=match cZ P e with
 |some size=>match lO P e with
  |some bytes=>match dS P e with
   |some hd=>match RL P h size (hd.map .g) t' x with
    |some p=>if RM size bytes p.1 hd then qV h e size p.1 p.2 s else B
    |none=>B
   |none=>B
  |none=>B
 |none=>B
def iJ(P:Program)(h:aE)(types:Array TypeId)(s x:u):Option ER:=
 match types.toList with
 |[t,t']=>match P.underlying t with
  |some (.slice e)=>UU P h e t' s x
  |_=>B
 |_=>B
def mz(r:Option aE):Option ER:=match r with
 |some Q=>J (.val (.g undef) Q)
 |none=>B
def isU(v:u):Bool:=match v with
 | .g (.pointer B)=>M
 | .ptr _ _=>M
 |_=>R
def yU(h:aE)(t:Extern.Atomic.T)(b off:Nat):Option ER:=match dt h b off 1 with
 |some [v]=>match t with
  | .int k=>match eX v with
   |some (k',_)=>if k=k' then J (.val v h)else B
   |none=>B
  | .ptr=>if isU v then J (.val v h)else B
 |_=>B
def yg(h:aE)(b off:Nat)(v:u):Option ER:=if v.dh then mz (fL h b off [v])else B
def J5(h:aE)(b off:Nat)(k:IntKind)(hd x y:Int):Option ER:=
 if hd=x then(match fL h b off [.g (.int k y)]with
  |some Q=>J (.val (.g (.bool M)) Q)
  |none=>B)
 else J (.val (.g (.bool R)) h)
def MX(h:aE)(t:Extern.Atomic.T)(b off:Nat)(x y:u):Option ER:=match t with
 | .int k'=>match dt h b off 1 with
  |some [v]=>match eX v with
   |some (k,hd)=>match eX x with
    |some (k1,x)=>match eX y with
     |some (k2,y)=>if k=k'/\k1=k'/\k2=k' then J5 h b off k' hd x y else B
     |none=>B
    |none=>B
   |none=>B
  |_=>B
 |_=>B
def XF(h:aE)(k:IntKind)(b off:Nat)(y:u):Option ER:=match dt h b off 1 with
 |some [v]=>match eX v with
  |some (k2,x)=>match eX y with
   |some (k1,y)=>if k2=k/\k1=k then(match fL h b off [.g (.int k (cO k (x+y)))]with
    |some Q=>J (.val (.g (.int k (cO k (x+y)))) Q)
    |none=>B)else B
   |none=>B
  |none=>B
 |_=>B
def aey(v:u):Bool:=match v with
 | .g (.pointer (J _))=>M
 | .ptr _ _=>M
 |_=>R
def KJ:u->Option Nat
 | .sl b _ _ _=>J b
 | .og b _ _ _=>J b
 |_=>B
def j8(h:aE)(b:Nat):Bool:=match N h b with
 |some o=>match o.cells? with|some (_::_)=>M|_=>R
 |none=>R
def dW(h:aE)(e:Ext)(args:List u):Option ER:=match e with
 | .O0 _=>match args with
  |[x,y]=>match KJ x with
   |some b=>match KJ y with
    |some b'=>if b≠b'/\j8 h b=M/\j8 h b'=M then J (.val (.g (.bool R)) h)else B
    |none=>B
   |none=>B
  |_=>B
 | .cmp=>match args with
  |[.g (.string a),.g (.string b)]=>J (.val (.g (goInt (Extern.BytealgCompare.cmp a b))) h)
  |_=>B
 | .load t=>match args with
  |[.ptr b off]=>yU h t b off
  |_=>B
 | .store=>match args with
  |[.ptr b off,v]=>yg h b off v
  |_=>B
 | .cas t=>match args with
  |[.ptr b off,x,y]=>MX h t b off x y
  |_=>B
 | .add k=>match args with
  |[.ptr b off,y]=>XF h k b off y
  |_=>B
 | .mark1=>match args with
  |[v]=>if aey v then J (.val (.g undef) h)else B
  |_=>B
 | .mark0=>match args with
  |[]=>J (.val (.g undef) h)
  |_=>B
def gg(P:Program)(xt:FuncId->Option Ext)(h:aE)(f:FuncId)(args:List u):Option ER:=
 match xt f with
 |none=>match P.funcs[f]? with
  |some fn=>match fn.body with
   |some _=>J (.enter f args)
   |none=>B
  |none=>B
 |some e=>dW h e args
def nj(P:Program)(t:TypeId)(name:String):Option FuncId:=match P.info? t with
 |some i=>match i.methods.toList.find? (·.name==name)with
  |some m=>if m.path.isEmpty then(match m.func with
   |some (f,p)=>match P.underlying t with
    |some (.pointer _)=>if p then J f else B
    |some _=>if p then B else J f
    |none=>B
   |none=>B)else B
  |none=>B
 |none=>B
def p8(P:Program)(xt:FuncId->Option Ext)(h:aE)(f:u)(args:List u):Option ER:=match f with
 | .fn f cap=>gg P xt h f (args++cap)
 | .um l=>match N h l with
  |some (.loop r)=>if O r.params=O args then J (.round l args)else B
  |_=>B
 |_=>B
def qN:u->Option Nat
 | .sl _ _ n _=>J n
 | .og _ _ _ n=>J n
 | .e0=>J 0
 | .sle=>J 0
 | .g (.slice B n _)=>if n=0 then J 0 else B
 |_=>B
def qx(h:aE)(cs:List u):u->Option aE
 | .sl b off _ _=>fL h b off cs
 | .og b off _ _=>fL h b off cs
 |_=>B
def wS(h:aE)(size n:Nat)(cs:List u)(d:u):Option ER:=
 if n=0 then J (.val (.g (goInt 0)) h)else match dC (n*size) cs with
 |some q=>if q.all u.dh then(match qx h q d with
  |some Q=>J (.val (.g (goInt n)) Q)
  |none=>B)else B
 |none=>B
def rO(P:Program)(h:aE)(types:Array TypeId)(d s:u):Option ER:=match types.toList with
 |[t,t']=>match P.underlying t with
  |some (.slice e)=>match P.underlying t' with
   |some (.slice _)=>match cZ P e with
    |some size=>match qN d with
     |some dn=>match eD h size s with
      |some p=>wS h size (Nat.min p.1 dn) p.2 d
      |none=>B
     |none=>B
    |none=>B
   |_=>B
  |_=>B
 |_=>B
def sw(P:Program)(h:aE)(types:Array TypeId)(d:u):Option ER:=match types.toList with
 |[t]=>match P.underlying t with
  |some (.slice e)=>match dS P e with
   |some hd=>match qN d with
    |some n=>if n=0 then J (.val (.g undef) h)else if(hd.map u.g).all u.dh then mz (qx h (gT n (hd.map .g)) d)else B
    |none=>B
   |none=>B
  |_=>B
 |_=>B
def GH(h:aE)(b:Nat)(es:List (u×u×Nat))(clock:Nat):Option (Option (Nat×u))->Option aE
 |some (J x)=>J (aI h b (.map (es.eraseIdx x.1) clock))
 |some B=>J (aI h b (.map es clock))
 |none=>B
def xw(P:Program)(h:aE)(types:Array TypeId)(m k:u):Option ER:=match types.toList with
 |t::_=>match P.underlying t with
  |some (.map kt _)=>match P.underlying kt with
   |some kd=>if pE kd then(match m with
    | .mp b=>match N h b with
     |some (.map es clock)=>mz (GH h b es clock (jB kd k es 0))
     |_=>B
    |_=>B)else B
   |none=>B
  |_=>B
 |_=>B
def vY(P:Program)(h:aE)(t:TypeId)(a x:u):Option ER:=match a with
 | .ptr b off=>match x.cells with
  |some cs=>match cZ P t with
   |some n=>if O cs==n&&cs.all u.dh then mz (fL h b off cs)else B
   |none=>B
  |none=>B
 |_=>B
def mQ(P:Program)(xt:FuncId->Option Ext)(h:aE)(name:String)(args:List u):u->Option ER
 | .lP t v=>match nj P t name with
  |some f=>gg P xt h f (v::args)
  |none=>B
 |_=>B
def vi(P:Program)(xt:FuncId->Option Ext)(h:aE)(ev:Operand->u)(c:Call):Option ER:=match c.callee with
 | .value f=>p8 P xt h (ev f) (c.args.toList.map ev)
 | .invoke r name=>mQ P xt h name (c.args.toList.map ev) (ev r)
 | .builtin b=>match b with
  | .append=>match c.args.toList with
   |[s,x]=>iJ P h c.argTypes (ev s) (ev x)
   |_=>B
  | .copy=>match c.args.toList with
   |[d,s]=>rO P h c.argTypes (ev d) (ev s)
   |_=>B
  | .clear=>match c.args.toList with
   |[d]=>sw P h c.argTypes (ev d)
   |_=>B
  | .delete=>match c.args.toList with
   |[m,k]=>xw P h c.argTypes (ev m) (ev k)
   |_=>B
  |_=>B
def Hf(args:List u):u->Option ER
 | .fn f cap=>J (.defer (.fn f cap args))
 |_=>B
def rj(ev:Operand->u)(c:Call):Option ER:=match c.callee with
 | .value f=>Hf (c.args.toList.map ev) (ev f)
 |_=>B
def pg(P:Program)(xt:FuncId->Option Ext)(h:aE)(ev:Operand->u)(o:Oper):Option ER:=
 (match o.op with
 | .assign x=>λ_ _ h ev=>J (.val (ev x) h)
 | .store t a x=>λP _ h ev=>vY P h t (ev a) (ev x)
 | .mapUpdate t m k x=>λP _ h ev=>mz (sv P h t (ev m) (ev k) (ev x))
 | .insert t m k x=>λP _ h ev=>mz (sv P h t (ev m) (ev k) (ev x))
 | .call c=>λP xt h ev=>vi P xt h ev c
 | .defer c=>λ_ _ _ ev=>rj ev c
 |_=>λ_ _ _ _=>B:Program->(FuncId->Option Ext)->aE->(Operand->u)->Option ER) P xt h ev
structure ey where
 i:Nat
 o:Oper
 Ah:Nat
 zG:Bool
def lU:List Oper->Nat->List Nat->List ey
 |[],_,_=>[]
 |o::l,i,acc=>
  let a:=o.after.toList.foldl (λs e=>if Region.binds .any e then s|||2^e.on|||(match iS e.on acc with|some x=>x|none=>0)else s) 0
  ⟨i,o,a,cH o.op⟩::lU l (i+1) (acc++[a])
def ve(ops:Array Oper)(hc:List ey):Bool:=
 hc.all (λx=>x.o.after.toList.all (λe=> !Region.binds .any e||decide (e.on<x.i)))&&
 hc.all (λx=> !x.zG||hc.all λy=> !y.zG|| !decide (x.i<y.i)||y.Ah.testBit x.i)&&
 hc.all (λx=>x.zG||match x.o.dst with
  |none=>M
  |some d=> !(x.o.looksAt ops).contains d&&hc.all λy=>y.i==x.i|| !((y.o.looksAt ops).contains d||y.o.dst==J d)||y.Ah.testBit x.i)
inductive Phase where
 |unsat|sat|wait
structure mI where
 phase:Phase
 infos:List ey
 eT:List ey
 last:Option ey
 base:Nat
 ops:Array Oper
inductive dO where
 |code (c:Code)
 |inBlock (id:Nat)
 |inLoop (body:Code)
 |ops (l:List Oper) (ops:Array Oper)
 |kR (r:mI)
 |kW (l:Nat)
 |lA (l:Nat)
 |beginRound
structure bY where
 fn:FuncId
 cX:BT u
 size:Nat
 todo:List dO
 defers:List AD
 ret:Bool
 deferred:Bool
 roundOf:Option Nat
structure AM where
 fr:bY
 callers:List bY
 heap:aE
 next:Nat
def bY.lz(fr:bY)(t:List dO):bY:=match fr with
 |⟨a,b,c,_,e,f,g,h⟩=>⟨a,b,c,t,e,f,g,h⟩
def bY.Aw(fr:bY)(t:BT u):bY:=match fr with
 |⟨a,_,c,d,e,f,g,h⟩=>⟨a,t,c,d,e,f,g,h⟩
def bY.xx(fr:bY)(t:List AD):bY:=match fr with
 |⟨a,b,c,d,_,f,g,h⟩=>⟨a,b,c,d,t,f,g,h⟩
def bY.anb(fr:bY):bY:=match fr with
 |⟨a,b,c,d,e,_,g,h⟩=>⟨a,b,c,d,e,M,g,h⟩
def AM.wFr(m:AM)(fr:bY):AM:=match m with
 |⟨_,cs,h,Y⟩=>⟨fr,cs,h,Y⟩
def AM.Iq(m:AM)(fr:bY)(h:aE):AM:=match m with
 |⟨_,cs,_,Y⟩=>⟨fr,cs,h,Y⟩
def AM.Kh(m:AM)(fr:bY)(cs:List bY):AM:=match m with
 |⟨_,_,h,Y⟩=>⟨fr,cs,h,Y⟩
def AM.Nk(m:AM)(fr:bY)(h:aE)(k:Nat):AM:=match m with
 |⟨_,cs,_,Y⟩=>⟨fr,cs,h,Y+k⟩
def mI.pT(r:mI)(p:Phase):mI:=match r with
 |⟨_,a,b,c,d,e⟩=>⟨p,a,b,c,d,e⟩
def mI.after(r:mI)(rest:List ey)(e:ey):mI:=match r with
 |⟨_,a,_,_,d,f⟩=>⟨.unsat,a,rest,J e,d,f⟩
def nR.iD(l:nR)(s:LoopState)(p:Option Code):nR:=match l with
 |⟨_,_,a,b,c,d,e,f,g⟩=>⟨s,p,a,b,c,d,e,f,g⟩
def qw(s:BT u):Operand->u
 | .tmp t=>X s t
 | .const v=> .g v
 | .global g=> .g (.pointer (J ⟨g,0,B⟩))
 | .func f=> .fn f []
def bY.put(fr:bY)(d:Option Tmp)(v:u):Option bY:=match d with
 |none=>J fr
 |some d=>if d<fr.size then J (fr.Aw (sset fr.cX d v))else B
def eM(ops:Array Oper)(s:BT u)(o:Oper):Option Bool:=match o.guard with
 |none=>J M
 |some (j,want)=>match ops[j]? with
  |some o'=>match o'.dst with
   |some d=>match X s d with
    | .g (.bool b)=>J (b==want)
    | .g (.tuple _)=>J R
    |_=>B
   |none=>B
  |none=>B
mutual
def XT:Value->Value->Bool
 | .bool a,.bool b=>a==b
 | .int k a,.int k' b=>k==k'&&a==b
 | .string a,.string b=>a.data.toList==b.data.toList
 | .pointer B,.pointer B=>M
 | .pointer (J a),.pointer (J b)=>a==b
 | .slice B a b,.slice B c d=>a==c&&b==d
 | .map B,.map B=>M
 | .nilFunc,.nilFunc=>M
 | .nilIface,.nilIface=>M
 | .func (.func f) ⟨[]⟩ ⟨[]⟩,.func (.func g) ⟨[]⟩ ⟨[]⟩=>f==g
 | .tuple ⟨[]⟩,.tuple ⟨[]⟩=>M
 | .agg ⟨a⟩,.agg ⟨b⟩=>Qc a b
 |_,_=>R
def Qc:List Value->List Value->Bool
 |[],[]=>M
 |a::as,b::bs=>XT a b&&Qc as bs
 |_,_=>R
end
mutual
def tZ:u->u->Bool
 | .g a,.g b=>XT a b
 | .ptr a b,.ptr c d=>a==c&&b==d
 | .sl a b c d,.sl a' b' c' d'=>a==a'&&b==b'&&c==c'&&d==d'
 | .og a b c d,.og a' b' c' d'=>a==a'&&b==b'&&c==c'&&d==d'
 | .sle,.sle=>M
 | .mp a,.mp b=>a==b
 | .um a,.um b=>a==b
 | .fz n a,.fz m b=>n==m&&uY a b
 | .fp a,.fp b=>uY a b
 | .fi k o a,.fi k' o' b=>k==k'&&o==o'&&uY a b
 | .e0,.e0=>M
 | .fn f c,.fn g d=>f==g&&uY c d
 | .lP t v,.lP AV w=>t==AV&&tZ v w
 | .agg a,.agg b=>uY a b
 | .dY a,.dY b=>uY a b
 |_,_=>R
def uY:List u->List u->Bool
 |[],[]=>M
 |a::as,b::bs=>tZ a b&&uY as bs
 |_,_=>R
end
def afZ:AO->AO->Bool
 | .cells a e,.cells b f=>e==f&&uY a b
 | .map [] 0,.map [] 0=>M
 |_,_=>R
def QR.obj:QR->Option AO
 | .val _=>B
 | .wF o| .ri o _ _| .AT o=>J o
def mw(rem:Nat)(x:ey):Bool:=(x.Ah&&&rem)==0
def si(last:Option ey)(x:ey):Bool:=match last with
 |none=>R
 |some e=>e.Ah.testBit x.i
def sP(last:Option ey)(x:ey):Bool:=match last with
 |none=>M
 |some e=>x.Ah.testBit e.i
def jM:List ey->Nat
 |[]=>0
 |x::l=>2^x.i|||jM l
def saturate(P:Program)(r:mI)(rem:Nat):List ey->bY->aE->Option (bY×aE)
 |[],fr,h=>J (fr,h)
 |x::l,fr,h=>
  if mw rem x&&sP r.last x then
   match eM r.ops fr.cX x.o with
   |some M=>match en P h (qw fr.cX) x.o with
    |some q=>match fr.put x.o.dst (q.av (r.base+x.i))with
     |some Au=>saturate P r rem l Au (match q.obj with|some o=>aI h (r.base+x.i) o|none=>h)
     |none=>B
    |none=>B
   |some R=>match fr.put x.o.dst (.g undef)with
    |some Au=>saturate P r rem l Au h
    |none=>B
   |none=>B
  else saturate P r rem l fr h
def Eg(P:Program)(r:mI)(s:BT u)(h:aE)(x:ey):Bool:=
 match eM r.ops s x.o with
 |some M=>match en P h (qw s) x.o with
  |some q=>(match x.o.dst with|some d=>tZ (X s d) (q.av (r.base+x.i))|none=>M)&&
   (match q.obj with
    |some o=>match N h (r.base+x.i)with|some o'=>afZ o' o|none=>R
    |none=>M)
  |none=>R
 |some R=>match x.o.dst with|some d=>tZ (X s d) (.g undef)|none=>M
 |none=>R
def wx(P:Program)(r:mI)(rem:Nat)(s:BT u)(h:aE):List ey->Bool
 |[]=>M
 |x::l=>(!(mw rem x)||si r.last x||Eg P r s h x)&&wx P r rem s h l
def bY.finish(fr:bY)(v:u):Option bY:=match fr.todo with
 | .ops (o::l) a::k=>match fr.put o.dst v with
  |some Au=>J (Au.lz (.ops l a::k))
  |none=>B
 | .kR r::k=>match r.phase,r.eT with
  | .wait,e::rest=>match fr.put e.o.dst v with
   |some Au=>J (Au.lz (.kR (r.after rest e)::k))
   |none=>B
  |_,_=>B
 | .kW l::k=>J (fr.lz (.lA l::k))
 |_=>B
def eK:List u->Nat->BT u->BT u
 |[],_,t=>t
 |v::l,i,t=>eK l (i+1) (sset t i v)
def bY.enter(P:Program)(f:FuncId)(args:List u)(deferred:Bool):Option bY:=
 match P.funcs[f]? with
 |some fn=>match fn.body with
  |some c=>if O args<=fn.ntmps then J {fn:=f,cX:=eK args 0 .nil,size:=fn.ntmps,todo:=[.code c],defers:=[],ret:=R,deferred,roundOf:=B}else B
  |none=>B
 |none=>B
def kr:List Tmp->List u->Nat->BT u->Option (BT u)
 |[],[],_,t=>J t
 |p::ps,v::vs,size,t=>if p<size then kr ps vs size (sset t p v)else B
 |_,_,_,_=>B
def pj(id:Nat):List dO->Option (List dO)
 | .inBlock Cg::k=>if Cg==id then J k else pj id k
 |_::k=>pj id k
 |[]=>B
def upon(P:Program)(m:AM)(wait:bY):ER->Option AM
 | .val v h=>match wait.finish v with
  |some fr=>J (m.Iq fr h)
  |none=>B
 | .rf o len h=>match wait.finish (.og m.next 0 0 len)with
  |some fr=>J (m.Nk fr (aI h m.next o) 1)
  |none=>B
 | .enter f args=>match bY.enter P f args R with
  |some fr=>J (m.Kh fr (wait::m.callers))
  |none=>B
 | .defer d=>match wait.roundOf with
  |none=>match(wait.xx (d::wait.defers)).finish (.g undef)with
   |some fr=>J (m.wFr fr)
   |none=>B
  |some _=>B
 | .round l args=>match N m.heap l with
  |some (.loop r)=>match kr r.params args r.size r.cX with
   |some cX=>J {m with
    fr:={fn:=r.fn,cX,size:=r.size,todo:=[.code r.assign,.beginRound,.code r.body],defers:=[],ret:=R,deferred:=R,roundOf:=J l},
    callers:=wait::m.callers}
   |none=>B
  |_=>B
def eW(P:Program)(h:aE)(s:BT u):List ResultVar->Option (List u)
 |[]=>J []
 | .tmp t::l=>match eW P h s l with|some r=>J (X s t::r)|none=>B
 | .cell a t::l=>match wu P h t (X s a)with
  |some v=>match eW P h s l with|some r=>J (v::r)|none=>B
  |none=>B
def one(vs:List u):u:=match vs with
 |[v]=>v
 |vs=> .dY vs
def endRound(m:AM)(l:Nat)(qJ:Option Code):Option AM:=
 match N m.heap l,m.callers with
 |some (.loop r),c::cs=>match c.finish (.g (.bool qJ.isNone))with
  |some fr=>J ((m.Kh fr cs).Iq fr (aI m.heap l (.loop (r.iD (if qJ.isNone then .ready else .done) qJ))))
  |none=>B
 |_,_=>B
def leave(m:AM)(qJ:Option Code):Option AM:=match m.fr.roundOf with
 |none=>match qJ with
  |none|some .ret=>J (m.wFr m.fr.anb)
  |_=>B
 |some l=>if m.fr.deferred then B else endRound m l qJ
def qO:List dO->Bool
 | .kR _::_=>M
 |_=>R
def zr(m:AM)(v:u)(c:bY)(cs:List bY):Option AM:=
 if m.fr.deferred then(if c.ret then J (m.Kh c cs)else B)
 else match c.finish v with
  |some fr=>J (m.Kh fr cs)
  |none=>B
def Ir(P:Program)(m:AM):Option AM:=
 match m.fr.defers with
 | .xF b::ds=>match N m.heap b with
  |some (.defs (J calls))=>J (m.Iq (m.fr.xx (calls++ds)) (aI m.heap b (.defs B)))
  |_=>B
 | .fn f cap args::ds=>match bY.enter P f (args++cap) M with
  |some fr=>J (m.Kh fr (m.fr.xx ds::m.callers))
  |none=>B
 |[]=>match m.callers with
  |[]=>B
  |c::cs=>if qO m.fr.todo then B else match P.funcs[m.fr.fn]? with
   |some fn=>match eW P m.heap m.fr.cX fn.results.toList with
    |some vs=>zr m (one vs) c cs
    |none=>B
   |none=>B
def AK(m:AM)(o:Oper)(k:List dO):Option AM:=match m.fr.put o.dst (.g undef)with
 |some fr=>J (m.wFr (fr.lz k))
 |none=>B
def yN(m:AM)(o:Oper)(k:List dO):Option QR->Option AM
 |some q=>match q.obj with
  |none=>match m.fr.put o.dst (q.av 0)with
   |some fr=>J (m.wFr (fr.lz k))
   |none=>B
  |some ob=>match m.fr.put o.dst (q.av m.next)with
   |some fr=>J (m.Nk (fr.lz k) (aI m.heap m.next ob) 1)
   |none=>B
 |none=>B
def ud(P:Program)(m:AM)(wait:bY):Option ER->Option AM
 |some r=>upon P m wait r
 |none=>B
def XS(P:Program)(xt:FuncId->Option Ext)(m:AM)(o:Oper)(k:List dO)(ops:Array Oper):Option AM:=
 match eM ops m.fr.cX o with
 |some w=>if w then(if cH o.op then ud P m m.fr (pg P xt m.heap (qw m.fr.cX) o)else yN m o k (en P m.heap (qw m.fr.cX) o))
  else AK m o k
 |none=>B
def to(m:AM)(todo:List dO):Option AM:=J (m.wFr (m.fr.lz todo))
def w8(m:AM)(thn els:Code)(k:List dO):u->Option AM
 | .g (.bool b)=>to m (.code (if b then thn else els)::k)
 |_=>B
def wh(m:AM)(id:Nat)(k:List dO):Option AM:=match pj id k with
 |some k'=>to m k'
 |none=>leave m (J (.exit id))
def BQ(n:Nat):List ey->Bool
 |[]=>M
 |x::l=>(match x.o.dst with|some d=>decide (d<n)|none=>M)&&BQ n l
def D0(m:AM)(ops:Array Oper)(k:List dO)(is:List ey):Option AM:=
 if ve ops is&&BQ m.fr.size is then J (m.Nk (m.fr.lz (.kR {phase:= .unsat,infos:=is.filter (!·.zG),eT:=is.filter (·.zG),last:=B,base:=m.next,ops}::k)) m.heap ops.size)
 else B
def Aq(fr:bY)(params:List Tmp)(assign body:Code)(defers:Nat):nR:=
 {state:= .ready,pending:=B,fn:=fr.fn,cX:=fr.cX,size:=fr.size,params,assign,body,defers}
def Al(P:Program)(xt:FuncId->Option Ext)(m:AM)(f:Operand)(params:List Tmp)(assign body:Code)(k:List dO):Option AM:=
 match m.fr.roundOf with
 |none=>
  let h:=aI (aI m.heap m.next (.defs (J []))) (m.next+1) (.loop (Aq m.fr params assign body m.next))
  ud P (m.Nk m.fr h 2) ((m.fr.lz (.kW (m.next+1)::k)).xx (.xF m.next::m.fr.defers)) (p8 P xt h (qw m.fr.cX f) [.um (m.next+1)])
 |some o=>match N m.heap o with
  |some (.loop lo)=>
   let h:=aI m.heap m.next (.loop (Aq m.fr params assign body lo.defers))
   ud P (m.Nk m.fr h 1) (m.fr.lz (.kW m.next::k)) (p8 P xt h (qw m.fr.cX f) [.um m.next])
  |_=>B
def yp(m:AM)(ops:Array Oper)(draw:Bool)(k:List dO):Option AM:=
 if draw then D0 m ops k (lU ops.toList 0 [])else to m (.ops ops.toList ops::k)
def DH(P:Program)(xt:FuncId->Option Ext)(m:AM)(c:Code)(k:List dO):Option AM:=
 (match c with
 | .ret=>λ_ _ m _=>leave m (J .ret)
 | .skip=>λ_ _ m k=>to m k
 | .seq a b=>λ_ _ m k=>to m (.code a:: .code b::k)
 | .cond c thn els=>λ_ _ m k=>w8 m thn els k (qw m.fr.cX c)
 | .block id body=>λ_ _ m k=>to m (.code body:: .inBlock id::k)
 | .loop body=>λ_ _ m k=>to m (.code body:: .inLoop body::k)
 | .exit id=>λ_ _ m k=>wh m id k
 | .region _ ops draw=>λ_ _ m k=>yp m ops draw k
 | .rangeFunc f params assign body=>λP xt m k=>Al P xt m f params.toList assign body k
 |_=>λ_ _ _ _=>B:Program->(FuncId->Option Ext)->AM->List dO->Option AM) P xt m k
def IJ(P:Program)(m:AM)(r:mI)(k:List dO):Option (bY×aE)->Option AM
 |some (Au,h)=>if wx P r (jM r.eT) Au.cX h r.infos then J (m.Iq (Au.lz (.kR (r.pT .sat)::k)) h)else B
 |none=>B
def rF(P:Program)(xt:FuncId->Option Ext)(m:AM)(r:mI)(k:List dO)(e:ey)(rest:List ey):Option AM:=
 match eM r.ops m.fr.cX e.o with
 |some w=>if w then ud P m (m.fr.lz (.kR (r.pT .wait)::k)) (pg P xt m.heap (qw m.fr.cX) e.o)
  else AK m e.o (.kR (r.after rest e)::k)
 |none=>B
def Iv(P:Program)(xt:FuncId->Option Ext)(m:AM)(r:mI)(k:List dO):Option AM:=match r.phase with
 | .unsat=>IJ P m r k (saturate P r (jM r.eT) r.infos m.fr m.heap)
 | .sat=>match r.eT with
  |[]=>to m k
  |e::rest=>rF P xt m r k e rest
 | .wait=>B
def qU(m:AM)(l:Nat)(k:List dO):Option AO->Option AM
 |some (.loop r)=>match r.state with
  | .busy=>B
  |_=>J (m.Iq (m.fr.lz ((match r.pending with|some c=>[.code c]|none=>[])++k)) (aI m.heap l (.loop (r.iD .exhausted r.pending))))
 |_=>B
def AB(m:AM)(k:List dO):Option AM:=match m.fr.roundOf with
 |some l=>match N m.heap l with
  |some (.loop r)=>match r.state with
   | .ready=>J (m.Iq (m.fr.lz k) (aI m.heap l (.loop (r.iD .busy r.pending))))
   |_=>B
  |_=>B
 |none=>B
def H6(P:Program)(xt:FuncId->Option Ext)(m:AM)(l:List Oper)(ops:Array Oper)(k:List dO):Option AM:=match l with
 |[]=>to m k
 |o::l=>XS P xt m o (.ops l ops::k) ops
def JB(P:Program)(xt:FuncId->Option Ext)(m:AM)(i:dO)(k:List dO):Option AM:=
 (match i with
 | .code c=>λP xt m k=>DH P xt m c k
 | .inBlock _=>λ_ _ m k=>to m k
 | .inLoop body=>λ_ _ m k=>to m (.code body:: .inLoop body::k)
 | .ops l ops=>λP xt m k=>H6 P xt m l ops k
 | .kR r=>λP xt m k=>Iv P xt m r k
 | .lA l=>λ_ _ m k=>qU m l k (N m.heap l)
 | .beginRound=>λ_ _ m k=>AB m k
 | .kW _=>λ_ _ _ _=>B:Program->(FuncId->Option Ext)->AM->List dO->Option AM) P xt m k
def vh(P:Program)(xt:FuncId->Option Ext)(m:AM):Option AM:=
 if m.fr.ret then Ir P m else
 match m.fr.todo with
 |[]=>leave m B
 |i::k=>JB P xt m i k
def Ag(P:Program)(xt:FuncId->Option Ext):Nat->AM->Option AM
 |0,m=>J m
 |n+1,m=>match vh P xt m with
  |some m'=>Ag P xt n m'
  |none=>B
end
end br
end Go.Proofs.YtonnifoeokagjaaGreat
