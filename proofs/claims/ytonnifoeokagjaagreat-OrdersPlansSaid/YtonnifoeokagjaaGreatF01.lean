/- The theorem plans_holds of OrdersPlans: part 1 of its proof; no conditions. -/
import Derived.Orders
import Derived.Below
namespace Go.Proofs.YtonnifoeokagjaaGreat
set_option linter.all false
set_option maxRecDepth 8000
open Go
namespace bC
abbrev ak:=@if_neg
abbrev an:=@Nat.le_refl
abbrev aq:=@List.length_append
abbrev aw:=@if_pos
abbrev ax:=@List.length_take
abbrev ay:=@List.append_assoc
abbrev az:=@List.getD_eq_getElem?_getD
abbrev aB:=@List.take_append_of_le_length
abbrev aC:=@List.length_drop
abbrev aD:=@List.take_of_length_le
abbrev aF:=@List.getElem?_eq_getElem
abbrev aI:=@Nat.mul_le_mul_right
abbrev aM:=@decide_eq_true
abbrev aP:=@Nat.lt_of_lt_of_le
abbrev aR:=@List.mem_singleton
abbrev aS:=@Option.bind_some
abbrev aT:=@List.drop_of_length_le
abbrev aU:=@decide_eq_false
abbrev aV:=@Bool.and_eq_true
abbrev aW:=@Nat.lt_succ_self
abbrev aY:=@Nat.zero_le
abbrev bc:=@List.length_map
abbrev bf:=@List.take_take
abbrev bg:=@Nat.lt_or_ge
abbrev bh:=@Nat.add_mul
abbrev bp:=@List.mem_append
abbrev bu:=@List.mem_map
abbrev bz:=@Nat.le_succ
abbrev bA:=@Option.some.injEq
abbrev bB:=@List.mem_cons_of_mem
abbrev bD:=@List.length_cons
abbrev bE:=@List.mem_cons
abbrev bG:=@List.flatMap_cons
abbrev bM:=@Nat.min_eq_left
abbrev bS:=@List.getElem_mem
abbrev bW:=@Nat.not_lt_zero
abbrev bY:=@List.take_append_drop
abbrev b9:=@List.take_succ_eq_append_getElem
abbrev cg:=@List.drop_append_of_le_length
abbrev ch:=@List.nil_append
abbrev cj:=@List.getElem?_append_left
abbrev cu:=@List.mem_iff_getElem
abbrev cz:=@if_true
abbrev cC:=@if_false
abbrev cD:=@List.append_nil
abbrev cI:=@Nat.lt_trichotomy
abbrev cJ:=@Nat.mul_one
abbrev cM:=@List.flatMap_append
abbrev cP:=@Nat.one_mul
abbrev cS:=@Classical.byContradiction
abbrev cT:=@List.getElem?_eq_some_iff
abbrev cW:=@UInt8.lt_iff_toNat_lt
abbrev da:=@List.drop_eq_getElem_cons
abbrev df:=@Nat.min_self
abbrev dh:=@List.getElem?_append_right
abbrev dk:=@Bool.false_eq_true
abbrev dp:=@List.mem_flatMap
abbrev du:=@List.cons_lt_cons_iff
abbrev dv:=@List.take_zero
abbrev dB:=@List.map_append
abbrev dC:=@Option.map_some
abbrev dD:=@Nat.add_zero
abbrev dF:=@Array.toArray_toList
abbrev dM:=@of_decide_eq_true
abbrev dP:=@Nat.le_of_lt
abbrev dQ:=@List.map_cons
abbrev dR:=@List.getElem?_eq_none
abbrev dS:=@List.pairwise_cons
abbrev ef:=@List.mem_of_mem_take
abbrev eA:=@UInt8.toNat_inj
abbrev eB:=@List.length_nil
abbrev eE:=@List.getElem?_take
abbrev eG:=@Nat.lt_irrefl
abbrev eI:=@Nat.add_le_add_left
abbrev eJ:=@List.length_set
abbrev eK:=@Option.getD_some
abbrev eN:=@Nat.zero_mul
abbrev eR:=@Array.getD_eq_getD_getElem?
abbrev eU:=@Array.length_toList
abbrev eW:=@decide_eq_decide
abbrev eX:=@List.mem_range
abbrev eY:=@List.all_eq_true
abbrev ff:=@List.getElem?_map
abbrev fj:=@Bool.not_true
abbrev fq:=@List.pairwise_iff_getElem
abbrev fv:=@Nat.add_sub_cancel
abbrev fx:=@Nat.zero_add
abbrev fB:=@Bool.not_false
abbrev fF:=@UInt8.toNat_ofNat_of_lt'
abbrev fM:=@decide_eq_true_eq
abbrev fN:=@congrArg
abbrev fR:=@Nat.add_sub_cancel_left
abbrev fW:=@List.drop_take
abbrev gh:=@Nat.le_add_right
abbrev gi:=@Nat.le_trans
abbrev gG:=@List.length_singleton
abbrev gK:=@List.getElem?_take_of_lt
abbrev gP:=@List.mem_filter
abbrev gV:=@List.getElem?_drop
abbrev gY:=@List.mem_cons_self
abbrev gZ:=@Int.natCast_nonneg
abbrev im:=@List.pairwise_append
abbrev ir:=@List.mem_of_mem_drop
abbrev ix:=@List.mem_append_left
abbrev iz:=@List.drop_append
abbrev iD:=@List.set_eq_take_append_cons_drop
abbrev iQ:=@List.length_eraseIdx_of_lt
abbrev iZ:=@List.eraseIdx_eq_take_drop_succ
abbrev jg:=@List.drop_length
abbrev jk:=@Nat.add_assoc
abbrev jB:=@Bool.not_eq_true'
abbrev jG:=@List.nodup_cons
abbrev jM:=@Nat.sub_self
abbrev jR:=@Nat.pow_succ
abbrev jT:=@List.take_add
abbrev jY:=@List.cons_append
abbrev j9:=@List.drop_zero
abbrev kQ:=@Bool.or_eq_false_iff
abbrev kT:=@beq_iff_eq
abbrev lE:=@List.take_succ_cons
abbrev lN:=@List.drop_succ_cons
abbrev lP:=@List.takeWhile_cons
abbrev lU:=@List.drop_drop
abbrev lV:=@Nat.mod_eq_of_lt
abbrev lW:=@List.getElem?_replicate
abbrev mn:=@Nat.sub_mul
abbrev mq:=@Nat.add_comm
abbrev mu:=@Nat.lt_of_le_of_lt
abbrev mw:=@Nat.succ_mul
abbrev mA:=@Option.isSome_none
abbrev mB:=@List.length_pos_of_mem
abbrev mW:=@List.set_append_right
abbrev mX:=@List.length_replicate
abbrev mZ:=@Int.toNat_natCast
abbrev nm:=@List.nodup_append
abbrev nM:=@List.ext_getElem?
abbrev nY:=@List.nodup_nil
abbrev oc:=@Bool.false_and
abbrev oE:=@List.map_set
abbrev oG:=@decide_false
abbrev oI:=@Nat.sub_zero
abbrev oQ:=@List.map_nil
abbrev oR:=@List.take_length
abbrev pj:=@Nat.shiftRight_eq_div_pow
abbrev pn:=@List.map_congr_left
abbrev pB:=@List.replicate_succ
abbrev pJ:=@Bool.false_or
abbrev p8:=@Nat.sub_add_cancel
abbrev qb:=@Option.isSome_some
abbrev qd:=@Nat.eq_zero_or_pos
abbrev qe:=@of_decide_eq_false
abbrev qF:=@decide_true
abbrev qV:=@Nat.mul_comm
abbrev rj:=@Int.ofNat_lt
abbrev rZ:=@Array.getElem?_setIfInBounds_ne
abbrev sD:=@List.any_eq_true
abbrev sY:=@List.map_take
abbrev tI:=@List.take_left'
abbrev tJ:=@Bool.or_eq_true
abbrev tL:=@List.all_append
abbrev uF:=@Array.getElem?_push
abbrev vK:=@List.take_succ
abbrev vN:=@List.find?_eq_none
abbrev wK:=@List.size_toArray
abbrev xq:=@List.getElem?_set
abbrev xO:=@List.map_drop
abbrev xQ:=@Bool.true_and
abbrev xS:=@List.length_erase_of_mem
abbrev xU:=@Nat.mul_assoc
abbrev xW:=@Bool.true_beq
abbrev xZ:=@List.getElem_append_left
abbrev y9:=@List.filter_cons
abbrev za:=@List.take_append
abbrev zd:=@List.getElem?_cons_succ
abbrev zC:=@List.pairwise_singleton
abbrev zI:=@Nat.shiftLeft_eq
abbrev Af:=@Int.ofNat_le
abbrev An:=@Array.ext'
abbrev Ap:=@Bool.or_true
abbrev Ay:=@Nat.div_div_eq_div_mul
abbrev BB:=@List.foldl_cons
abbrev Cy:=@List.getElem_eraseIdx
abbrev DJ:=@List.mem_erase_of_ne
abbrev DN:=@Nat.pow_le_pow_right
abbrev DX:=@Bool.false_beq
abbrev D8:=@eq_false
abbrev Ed:=@Nat.pow_mul
abbrev Ef:=@Nat.mul_le_mul
abbrev Gh:=@List.getElem?_range
abbrev Gp:=@Nat.add_lt_add_left
abbrev Gs:=@List.replicate_zero
abbrev Gx:=@Nat.mul_le_mul_left
abbrev Ib:=@Int.ofNat_inj
abbrev IB:=@List.set_cons_zero
abbrev IU:=@List.Nodup.sublist
abbrev K8:=@Bool.true_or
abbrev Lg:=@List.getElem_drop
abbrev Lk:=@Nat.lt_succ_of_lt
abbrev LA:=@UInt8.ofNat_toNat
abbrev LK:=@List.map_map
abbrev L5:=@Nat.or_lt_two_pow
abbrev L9:=@not_false_eq_true
abbrev Mg:=@not_true_eq_false
abbrev Mm:=@Nat.mul_zero
abbrev PE:=@Nat.and_two_pow_sub_one_eq_mod
abbrev Qh:=@Nat.shiftLeft_add_eq_or_of_lt
abbrev UC:=@Nat.min_le_left
abbrev UE:=@Array.map_empty
abbrev UL:=@List.cons.injEq
abbrev Zo:=@Nat.two_pow_add_eq_or_of_lt
noncomputable section
theorem ah{p:Prop}(h:p:=by omega):p:=h
theorem aL{p:Prop}(h:p:=by kernel_rfl):p:=h
theorem bN{p:Prop}(h:p:=by decide):p:=h
theorem bL{p:Prop}(h:p:=by simp):p:=h
theorem fE{p:Prop}(h:p:=by simp;omega):p:=h
theorem fV{p:Prop}(h:p:=by simp[Op.operands]):p:=h
theorem gl{p:Prop}(h:p:=by rw[aj,aw rfl]):p:=h
theorem pC{p:Prop}(h:p:=by rw[wrap_i64 (by omega) (by omega)];omega):p:=h
theorem yL{p:Prop}(h:p:=by rw[aj,ak (by omega)]):p:=h
inductive BT(α:Type)where
 |nil
 |node (v:Option α) (l r:BT α)
namespace BT
variable{α:Type}
def val:BT α->Option α
 |nil=>none
 |node v _ _=>v
def left:BT α->BT α
 |nil=>nil
 |node _ l _=>l
def right:BT α->BT α
 |nil=>nil
 |node _ _ r=>r
def get(t:BT α):Nat->Option α:=
 BT.rec (motive:=λ_=>Nat->Option α) (λ_=>none)
  (λv _ _ ihl ihr n=>Nat.rec (motive:=λ_=>Option α) v
   (λm _=>Bool.rec (motive:=λ_=>Option α) (ihr (Nat.div m (nat_lit 2))) (ihl (Nat.div m (nat_lit 2))) (Nat.beq (Nat.mod m (nat_lit 2)) (nat_lit 0))) n) t
def set(f:Nat):BT α->Nat->α->BT α:=
 Nat.rec (motive:=λ_=>BT α->Nat->α->BT α) (λt _ _=>t)
  (λ_ ih t n a=>BT.rec (motive:=λ_=>BT α)
   (Nat.rec (motive:=λ_=>BT α) (node (some a) nil nil)
    (λm _=>Bool.rec (motive:=λ_=>BT α) (node none nil (ih nil (Nat.div m (nat_lit 2)) a)) (node none (ih nil (Nat.div m (nat_lit 2)) a) nil) (Nat.beq (Nat.mod m (nat_lit 2)) (nat_lit 0))) n)
   (λv l r _ _=>Nat.rec (motive:=λ_=>BT α) (node (some a) l r)
    (λm _=>Bool.rec (motive:=λ_=>BT α) (node v l (ih r (Nat.div m (nat_lit 2)) a)) (node v (ih l (Nat.div m (nat_lit 2)) a) r) (Nat.beq (Nat.mod m (nat_lit 2)) (nat_lit 0))) n) t) f
end BT
inductive AV where
 |g (v:Value)
 |ptr (b off:Nat)
 |sl (b off len cap:Nat)
 |mD (b off k len:Nat)
 |sle
 |mp (b:Nat)
 |sO (b:Nat)
 |fz (len:Nat) (cs:List AV)
 |fp (cs:List AV)
 |e0
 |fn (f:FuncId) (cap:List AV)
 |kB (t:TypeId) (v:AV)
 |agg (cs:List AV)
 |dN (vs:List AV)
 deriving Inhabited
inductive AD where
 |fn (f:FuncId) (cap args:List AV)
 |vr (b:Nat)
structure mM where
 state:LoopState
 pending:Option Code
 fn:FuncId
 cE:BT AV
 size:Nat
 params:List Tmp
 assign:Code
 body:Code
 defers:Nat
inductive AO where
 |cells (cs:List AV) (elem:TypeId)
 |eP (cs:List AV) (elem:TypeId) (es:Nat)
 |map (es:List (AV×AV×Nat)) (clock:Nat)
 |loop (l:mM)
 |defs (calls:Option (List AD))
 |dead
abbrev aG:=BT AO
def au(h:aG)(b:Nat):Option AO:=h.get b
def aK(h:aG)(b:Nat)(o:AO):aG:=BT.set (b+1) h b o
def sset(t:BT AV)(i:Nat)(v:AV):BT AV:=BT.set (i+1) t i v
def ao(t:BT AV)(i:Nat):AV:=match t.get i with|some v=>v|none=> .g undef
mutual
def AV.pd:AV->Option Value
 | .g v=>some v
 | .agg cs=>match AV.CX cs with|some l=>some (.agg l.toArray)|none=>none
 | .kB t v=>match AV.pd v with|some u=>some (.iface t u)|none=>none
 |_=>none
def AV.CX:List AV->Option (List Value)
 |[]=>some []
 |a::as=>match AV.pd a with
  |some v=>match AV.CX as with
   |some l=>some (v::l)
   |none=>none
  |none=>none
end
def AV.cells:AV->Option (List AV)
 | .agg cs=>some cs
 | .g (.agg cs)=>some (cs.toList.map .g)
 | .dN _=>none
 | .g (.tuple _)=>none
 |v=>some [v]
def AV.cy:AV->Bool
 | .agg _| .dN _| .g (.agg _)| .g (.tuple _)=>false
 |_=>true
def br{α:Type}(P:Program):Sem α->Option α
 | .pure a=>some a
 | .program k=>br P (k P)
 | .mark _ k=>br P k
 |_=>none
def PM(n:Int):Bool:=decide (-9223372036854775808<=n)&&decide (n<9223372036854775808)
def cF(k:IntKind)(n:Int):Int:=match k with
 | .i64=>if PM n then n else k.wrap n
 |k=>k.wrap n
def de{α:Type}(n:Nat):List α->Option (List α):=
 Nat.rec (motive:=λ_=>List α->Option (List α)) (λ_=>some [])
  (λ_ ih l=>List.rec (motive:=λ_=>Option (List α)) none
   (λa l _=>Option.rec (motive:=λ_=>Option (List α)) none (λr=>some (a::r)) (ih l)) l) n
def ed{α:Type}(n:Nat):List α->Option (List α):=
 Nat.rec (motive:=λ_=>List α->Option (List α)) (λl=>some l)
  (λ_ ih l=>List.rec (motive:=λ_=>Option (List α)) none (λ_ l _=>ih l) l) n
def iW{α:Type}(n:Nat)(l:List α):Option α:=
 List.rec (motive:=λ_=>Nat->Option α) (λ_=>none)
  (λa _ ih n=>Nat.rec (motive:=λ_=>Option α) (some a) (λm _=>ih m) n) l n
def dJ{α:Type}(n:Nat):List α->List α->Option (List α):=
 Nat.rec (motive:=λ_=>List α->List α->Option (List α))
  (λl=>List.rec (motive:=λ_=>List α->Option (List α))
   (λvs=>List.rec (motive:=λ_=>Option (List α)) (some []) (λ_ _ _=>none) vs)
   (λa l ih vs=>List.rec (motive:=λ_=>Option (List α)) (some (a::l))
    (λv vs _=>Option.rec (motive:=λ_=>Option (List α)) none (λr=>some (v::r)) (ih vs)) vs) l)
  (λ_ ih l vs=>List.rec (motive:=λ_=>Option (List α)) none
   (λa l _=>Option.rec (motive:=λ_=>Option (List α)) none (λr=>some (a::r)) (ih l vs)) l) n
inductive QR where
 |val (v:AV)
 |xa (o:AO)
 |pS (o:AO) (len cap:Nat)
 |yC (o:AO)
def QR.av(r:QR)(id:Nat):AV:=match r with
 | .val v=>v
 | .xa _=> .ptr id 0
 | .pS _ len cap=> .sl id 0 len cap
 | .yC _=> .mp id
def AO.cells?:AO->Option (List AV)
 | .cells cs _=>some cs
 | .eP cs _ _=>some cs
 |_=>none
def cN(P:Program)(t:TypeId):Option Nat:=match P.info? t with|some i=>some i.size|none=>none
def kg(P:Program)(t:TypeId):Option Nat:=match P.info? t with|some i=>some i.bytes|none=>none
def yg(P:Program)(t:TypeId):Option Bool:=match P.underlying t with
 |some (.struct _)|some (.array _ _)=>some true
 |some _=>some false
 |none=>none
def dy(P:Program)(t:TypeId):Option (List Value):=match P.info? t with
 |some i=>match i.zero with|some v=>some v.cells.toList|none=>none
 |none=>none
def mc(P:Program)(t:TypeId):Option Value:=match P.info? t with
 |some i=>i.zero
 |none=>none
def cK(h:aG)(b off n:Nat):Option (List AV):=match au h b with
 |some o=>match o.cells? with
  |some cs=>match ed off cs with|some r=>de n r|none=>none
  |none=>none
 |none=>none
def vD(P:Program)(h:aG)(t:TypeId)(a:AV):Option AV:=match a with
 | .ptr b off=>match yg P t,cN P t with
  |some true,some n=>match cK h b off n with|some l=>some (.agg l)|none=>none
  |some false,some _=>match au h b with
   |some o=>match o.cells? with|some cs=>iW off cs|none=>none
   |none=>none
  |_,_=>none
 | .fp cs=>match yg P t,cN P t with
  |some true,some n=>match de n cs with|some l=>some (.agg l)|none=>none
  |some false,some _=>iW 0 cs
  |_,_=>none
 |_=>none
def lK:AV->Option Int
 | .g (.int _ n)=>some n
 |_=>none
def DH(P:Program)(h:aG)(e:TypeId)(a b:AV):Option Bool:=match a with
 | .ptr b1 off=>match b with
  | .ptr b' MP=>match cN P e with
   |some (_+1)=>
    if b1==b' then some (off==MP)
    else match au h b1 with
     |some o=>match au h b' with
      |some o'=>if o.cells?.isSome&&o'.cells?.isSome then some false else none
      |none=>none
     |none=>none
   |_=>none
  | .g (.pointer none)=>some false
  |_=>none
 | .g (.pointer none)=>match b with
  | .ptr _ _=>some false
  |_=>none
 | .fp _=>match b with
  | .g (.pointer none)=>some false
  |_=>none
 |_=>none
def JQ:AV->Bool
 | .sl .. | .mD .. | .sle=>true
 | .fz (_+1) _=>true
 |_=>false
def xh:AV->Bool
 | .g (.slice none _ _)=>true
 |_=>false
def TA:AV->Bool
 | .fn .. | .sO _=>true
 |_=>false
def Dk:AV->Bool
 | .g .nilFunc=>true
 |_=>false
def isIf:AV->Bool
 | .kB .. =>true
 |_=>false
def De:AV->Bool
 | .g .nilIface=>true
 |_=>false
def Wo:AV->Bool
 | .mp _=>true
 |_=>false
def Dl:AV->Bool
 | .g (.map none)=>true
 |_=>false
def qJ(p q:Bool):Option Bool:=if p||q then some false else none
def vy(P:Program)(h:aG)(t:TypeId)(a b:AV):Option Bool:=
 match P.underlying t with
 |some (.pointer e)=>DH P h e a b
 |some (.slice _)=>qJ (JQ a&&xh b) (xh a&&JQ b)
 |some (.map _ _)=>qJ (Wo a&&Dl b) (Dl a&&Wo b)
 |some (.func _ _ _)=>qJ (TA a&&Dk b) (Dk a&&TA b)
 |some (.interface _)=>qJ (isIf a&&De b) (De a&&isIf b)
 |_=>none
def ts(op:BinOp)(k:IntKind)(m n:Int):Option AV:=
 match op with
 | .add=>some (.g (.int k (cF k (m+n))))
 | .sub=>some (.g (.int k (cF k (m-n))))
 | .lss=>some (.g (.bool (decide (m<n))))
 | .leq=>some (.g (.bool (decide (m<=n))))
 | .gtr=>some (.g (.bool (decide (n<m))))
 | .geq=>some (.g (.bool (decide (n<=m))))
 | .eql=>some (.g (.bool (m==n)))
 | .neq=>some (.g (.bool (m !=n)))
 |_=>none
def ke(P:Program)(op:BinOp)(t:TypeId)(x y:Operand)(u v:Value):Option AV:=
 match br P (do eqGuard op t x y u v;binOp op t u v)with
 |some r=>some (.g r)
 |none=>none
def pG(P:Program)(h:aG)(op:BinOp)(t:TypeId)(a b:AV):Option AV:=
 match op with
 | .eql=>match vy P h t a b with|some r=>some (.g (.bool r))|none=>none
 | .neq=>match vy P h t a b with|some r=>some (.g (.bool (!r)))|none=>none
 |_=>none
def iG(P:Program)(h:aG)(op:BinOp)(t:TypeId)(x y:Operand)(a b:AV):Option AV:=
 match a.pd with
 |some u=>match b.pd with
  |some v=>ke P op t x y u v
  |none=>pG P h op t a b
 |none=>pG P h op t a b
def eD:AV->Option (IntKind×Int)
 | .g v=>match v with| .int k n=>some (k,n)|_=>none
 |_=>none
def cZ(P:Program)(h:aG)(op:BinOp)(t:TypeId)(x y:Operand)(a b:AV):Option AV:=
 match eD a with
 |some (k,m)=>match eD b with
  |some (k',n)=>if k=k' then(match ts op k m n with
   |some r=>some r
   |none=>iG P h op t x y a b)else iG P h op t x y a b
  |none=>iG P h op t x y a b
 |none=>iG P h op t x y a b
def nG:List AV->Option (List UInt8)
 |[]=>some []
 | .g (.int .u8 n)::l=>match nG l with|some r=>some (UInt8.ofNat n.toNat::r)|none=>none
 |_=>none
def Bb(P:Program)(h:aG)(s d:TypeId)(b off len:Nat):Option AV:=match P.underlying s with
 |some (.slice e)=>match P.underlying d with
  |some .string=>match P.underlying e with
   |some (.int .u8)=>match cK h b off len with
    |some cs=>match nG cs with|some l=>some (.g (.string ⟨l.toArray⟩))|none=>none
    |none=>none
   |_=>none
  |_=>none
 |_=>none
def vM(P:Program)(h:aG)(s d:TypeId)(b off:Nat):Option AV:=match P.underlying s with
 |some (.pointer t)=>match P.underlying d with
  |some .unsafePointer=>match cN P t with
   |some (_+1)=>match au h b with
    |some (.cells cs _)=>if off<cs.length then some (.ptr b off)else none
    |_=>none
   |_=>none
  |_=>none
 |some .unsafePointer=>match P.underlying d with
  |some (.pointer u)=>match cN P u with
   |some _=>match au h b with
    |some (.cells cs e)=>if liesAt P P.depth e (cs.length / P.cellsOf e) off u 1 then some (.ptr b off)else none
    |_=>none
   |none=>none
  |_=>none
 |_=>none
def nD(P:Program)(h:aG)(s d:TypeId)(a:AV):Option AV:=
 match a with
 | .g v=>match br P (convert s d v)with|some r=>some (.g r)|none=>none
 | .sl b off len _=>Bb P h s d b off len
 | .mD b off _ len=>Bb P h s d b off len
 | .ptr b off=>vM P h s d b off
 |_=>none
def apart(r:Option (Nat×Nat))(vs:Option (List AV))(cs:List AV):Option (List AV):=match r with
 |none=>none
 |some p=>match vs with
  |none=>none
  |some vs=>if vs.length=p.2 then dJ p.1 cs vs else none
def fo(place:Nat->Option (Nat×Nat))(ev:Operand->AV):List (Nat×Operand)->List AV->Option (List AV)
 |[],cs=>some cs
 |x::rest,cs=>match apart (place x.1) (ev x.2).cells cs with
  |some r=>fo place ev rest r
  |none=>none
def fK{α:Type}:Nat->List α->List α
 |0,_=>[]
 |n+1,l=>l++fK n l
def nj(len:Nat)(i:Int):Option Nat:=match i with
 | .ofNat n=>if n<len then some n else none
 | .negSucc _=>none
def ma(i:Int)(hi:Nat):Option Nat:=match i with
 | .ofNat n=>if n<=hi then some n else none
 | .negSucc _=>none
def aQ(P:Program)(s:TypeId)(f:Nat):Option Nat:=match P.underlying s with
 |some (.struct fs)=>match fs[f]? with
  |some x=>match cN P x.type with
   |some (_+1)=>some x.offset
   |_=>none
  |none=>none
 |_=>none
def fieldsOf(P:Program)(s:TypeId):Option (List (Nat×Nat)):=match P.underlying s with
 |some (.struct fs)=>fs.toList.mapM λx=>(P.info? x.type).map λi=>(x.offset,i.size)
 |_=>none
def fe(d hi:Nat)(x:Option AV):Option Nat:=match x with
 |none=>some d
 |some v=>match lK v with
  |some i=>ma i hi
  |none=>none
def sv(size b off len cap:Nat)(lo hi:Option AV):Option AV:=match fe len cap hi with
 |some h=>match fe 0 h lo with
  |some l=>some (.sl b (if cap=l then off else off+l*size) (h-l) (cap-l))
  |none=>none
 |none=>none
def aa8(size b off k len:Nat)(lo hi:Option AV):Option AV:=match fe len len hi with
 |some h=>match fe 0 h lo with
  |some l=>if l<len then some (.mD b (off+l*size) (k+l) (h-l))else if l=0 then some (.mD b off k (h-l))else some .sle
  |none=>none
 |none=>none
def vq(size len:Nat)(cs:List AV)(lo hi:Option AV):Option AV:=match fe len len hi with
 |some h=>match fe 0 h lo with
  |some l=>match ed (l*size) cs with
   |some r=>match de ((h-l)*size) r with
    |some q=>some (.fz (h-l) q)
    |none=>none
   |none=>none
  |none=>none
 |none=>none
def Lw(size b off cap:Nat)(mi:Int)(lo:Option AV)(hi:AV):Option AV:=match ma mi cap with
 |some m=>match fe 0 m (some hi)with
  |some h=>match fe 0 h lo with
   |some l=>some (.sl b (if m=l then off else off+l*size) (h-l) (m-l))
   |none=>none
  |none=>none
 |none=>none
def ZC(size len:Nat)(cs:List AV)(mi:Int)(lo:Option AV)(hi:AV):Option AV:=match ma mi len with
 |some m=>match fe 0 m (some hi)with
  |some h=>match fe 0 h lo with
   |some l=>if m=l then some .e0 else match ed (l*size) cs with
    |some r=>match de ((h-l)*size) r with
     |some q=>some (.fz (h-l) q)
     |none=>none
    |none=>none
   |none=>none
  |none=>none
 |none=>none
def abD(lo hi:Option AV):Option AV:=match fe 0 0 hi with
 |some h=>match fe 0 h lo with
  |some _=>some .sle
  |none=>none
 |none=>none
def PV:Option AV->Option (Option Value)
 |none=>some none
 |some a=>match a.pd with
  |some v=>some (some v)
  |none=>none
def slG(P:Program)(t:TypeId)(v:Value)(lo hi:Option AV):Option AV:=match PV lo with
 |some lo=>match PV hi with
  |some hi=>match br P (Instr.sliceAt t v lo hi none)with
   |some r=>some (.g r)
   |none=>none
  |none=>none
 |none=>none
def eS(P:Program)(t:TypeId)(a:AV)(lo hi:Option AV):Option AV:=
 match a with
 | .sl b off len cap=>match P.underlying t with
  |some (.slice e)=>match cN P e with
   |some size=>sv size b off len cap lo hi
   |none=>none
  |_=>none
 | .mD b off k len=>match P.underlying t with
  |some (.slice e)=>match cN P e with
   |some size=>aa8 size b off k len lo hi
   |none=>none
  |_=>none
 | .sle=>match P.underlying t with
  |some (.slice e)=>match cN P e with
   |some _=>abD lo hi
   |none=>none
  |_=>none
 | .fz len cs=>match P.underlying t with
  |some (.slice e)=>match cN P e with
   |some size=>vq size len cs lo hi
   |none=>none
  |_=>none
 | .ptr b off=>match P.underlying t with
  |some (.array n e)=>match cN P e with
   |some size=>sv size b off n n lo hi
   |none=>none
  |_=>none
 | .g v=>slG P t v lo hi
 |_=>none
def mz(P:Program)(t:TypeId)(a:AV)(lo:Option AV)(hi mx:AV):Option AV:=
 match P.underlying t with
 |some (.slice e)=>match cN P e with
  |some size=>match lK mx with
   |some mi=>match a with
    | .sl b off _ cap=>Lw size b off cap mi lo hi
    | .mD b off _ len=>Lw size b off len mi lo hi
    | .fz len cs=>ZC size len cs mi lo hi
    | .e0=>ZC size 0 [] mi lo hi
    | .sle=>ZC size 0 [] mi lo hi
    | .g (.slice none 0 0)=>ZC size 0 [] mi lo hi
    |_=>none
   |none=>none
  |none=>none
 |_=>none
def xp(kind:TypeDesc)(k a:AV):Option Bool:=match k with
 | .g x=>match a with
  | .g y=>Instr.sameNow kind x y
  |_=>none
 |_=>none
def iF(kind:TypeDesc)(k:AV):List (AV×AV×Nat)->Nat->Option (Option (Nat×AV))
 |[],_=>some none
 |e::es,i=>
  match xp kind k e.1 with
  |some true=>some (some (i,e.2.1))
  |some false=>iF kind k es (i+1)
  |none=>none
def nP(d:TypeDesc):Bool:=match d with
 | .int _=>true
 |_=>false
def mapOf(h:aG):AV->Option (List (AV×AV×Nat))
 | .g (.map none)=>some []
 | .mp b=>match au h b with|some (.map es _)=>some es|_=>none
 |_=>none
def found(z:Value)(ok:Bool):Option (Option (Nat×AV))->Option AV
 |some (some x)=>some (if ok then .dN [x.2,.g (.bool true)]else x.2)
 |some none=>some (if ok then .dN [.g z,.g (.bool false)]else .g z)
 |none=>none
def my(P:Program)(h:aG)(t:TypeId)(a k:AV)(ok:Bool):Option AV:=
 match P.underlying t with
 |some (.map kt et)=>match P.underlying kt with
  |some kd=>match mc P et with
   |some z=>if nP kd then(match mapOf h a with
    |some es=>found z ok (iF kd k es 0)
    |none=>none)else none
   |none=>none
  |none=>none
 |_=>none
def Tk{α:Type}(f:α->α):Nat->List α->List α
 |_,[]=>[]
 |0,a::l=>f a::l
 |n+1,a::l=>a::Tk f n l
def xC(h:aG)(b:Nat)(es:List (AV×AV×Nat))(clock:Nat)(k v:AV):Option (Option (Nat×AV))->Option aG
 |some (some x)=>some (aK h b (.map (Tk (λe=>(k,v,e.2.2)) x.1 es) clock))
 |some none=>some (aK h b (.map (es++[(k,v,clock)]) (clock+1)))
 |none=>none
def qA(P:Program)(h:aG)(t:TypeId)(m k v:AV):Option aG:=
 match P.underlying t with
 |some (.map kt _)=>match P.underlying kt with
  |some kd=>if nP kd then(match m with
   | .mp b=>match au h b with
    |some (.map es clock)=>xC h b es clock k v (iF kd k es 0)
    |_=>none
   |_=>none)else none
  |none=>none
 |_=>none
def MK(P:Program)(t:TypeId)(h:aG)(a:AV):Option AV:=match P.underlying t with
 |some .string=>match a with
  | .g (.string s)=>some (.g (goInt s.size))
  |_=>none
 |some (.slice _)=>match a with
  | .g (.slice _ n _)=>some (.g (goInt n))
  | .sl _ _ n _=>some (.g (goInt n))
  | .mD _ _ _ n=>some (.g (goInt n))
  | .sle=>some (.g (goInt 0))
  | .fz n _=>some (.g (goInt n))
  | .e0=>some (.g (goInt 0))
  |_=>none
 |some (.map _ _)=>match a with
  | .g (.map none)=>some (.g (goInt 0))
  | .mp b=>match au h b with|some (.map es _)=>some (.g (goInt es.length))|_=>none
  |_=>none
 |_=>none
def qv(r:Option AV):Option QR:=match r with|some x=>some (.val x)|none=>none
def DP(c a b:AV):Option QR:=match c with
 | .g (.bool t)=>some (.val (if t then a else b))
 |_=>none
def Ob:AV->Option QR
 | .ptr b off=>some (.val (.ptr b off))
 | .fp cs=>some (.val (.fp cs))
 | .kB t u=>some (.val (.kB t u))
 | .fn f c=>some (.val (.fn f c))
 |_=>none
def yK(P:Program)(s:TypeId)(f:Nat):AV->Option QR
 | .ptr b off=>match aQ P s f with
  |some n=>some (.val (.ptr b (off+n)))
  |none=>none
 | .fp cs=>match aQ P s f with
  |some n=>match ed n cs with|some l=>some (.val (.fp l))|none=>none
  |none=>none
 |_=>none
def Nw(i:Nat):AV->Option QR
 | .dN vs=>qv (iW i vs)
 |_=>none
def uz(P:Program)(e:TypeId)(b off len:Nat)(i:AV):Option QR:=match lK i with
 |some n=>match nj len n with
  |some m=>match cN P e with
   |some size=>some (.val (.ptr b (off+m*size)))
   |none=>none
  |none=>none
 |none=>none
def AJ(P:Program)(e:TypeId)(cs:List AV)(len:Nat)(i:AV):Option QR:=match lK i with
 |some n=>match nj len n with
  |some m=>match cN P e with
   |some size=>match ed (m*size) cs with|some l=>some (.val (.fp l))|none=>none
   |none=>none
  |none=>none
 |none=>none
def Jt(P:Program)(t:TypeId)(x i:AV):Option QR:=match P.underlying t with
 |some (.slice e)=>match x with
  | .sl b off len _=>uz P e b off len i
  | .mD b off _ len=>uz P e b off len i
  | .fz len cs=>AJ P e cs len i
  |_=>none
 |some (.array len e)=>match x with
  | .ptr b off=>uz P e b off len i
  | .fp cs=>AJ P e cs len i
  |_=>none
 |_=>none
def qUn(P:Program)(op:UnOp)(x:AV):Option QR:=match x.pd with
 |some u=>match br P (Op.unary op u)with|some r=>some (.val (.g r))|none=>none
 |none=>none
def rH(P:Program)(t:TypeId)(x i:AV):Option QR:=match x.pd with
 |some a=>match i.pd with
  |some b=>match br P (Instr.index t a b)with|some r=>some (.val (.g r))|none=>none
  |none=>none
 |none=>none
def kX(P:Program)(t:TypeId)(x:AV):Option QR:=match P.underlying t with
 |some (.interface _)|none=>none
 |some _=>some (.val (.kB t x))
def qFn(fn:Fn)(first cap:Array Operand)(ev:Operand->AV):Option QR:=match fn with
 | .func f=>match first.toList with
  |[]=>some (.val (.fn f (cap.toList.map ev)))
  |_=>none
 |_=>none
def yW(P:Program)(elem:TypeId):Option QR:=match dy P elem with
 |some z=>some (.xa (.cells (z.map .g) elem))
 |none=>none
def Uq(elem:TypeId)(x:AV):Option QR:=match x.cells with
 |some cs=>some (.xa (.cells cs elem))
 |none=>none
def GK(r:Option (List AV)):Option QR:=match r with
 |some cs=>some (.val (.agg cs))
 |none=>none
def uo(P:Program)(ev:Operand->AV)(t:TypeId)(parts:List (Nat×Operand)):Option QR:=match dy P t with
 |some z=>match P.underlying t with
  |some (.struct _)=>match fieldsOf P t with
   |some fs=>GK (fo (λi=>iW i fs) ev parts (z.map .g))
   |none=>none
  |some (.array _ e)=>match cN P e with
   |some size=>GK (fo (λi=>some (i*size,size)) ev parts (z.map .g))
   |none=>none
  |_=>none
 |none=>none
def fG(e:TypeId)(len:Nat)(r:Option (List AV)):Option QR:=match r with
 |some cs=>some (.pS (.cells cs e) len len)
 |none=>none
def fy(P:Program)(ev:Operand->AV)(t:TypeId)(len:Nat)(parts:List (Nat×Operand)):Option QR:=match P.underlying t with
 |some (.slice e)=>match cN P e with
  |some size=>match dy P e with
   |some z=>if decide (len*size<=4096)&&z.length==size then fG e len (fo (λi=>some (i*size,size)) ev parts (fK len (z.map .g)))else none
   |none=>none
  |none=>none
 |_=>none
def SM(P:Program)(t:TypeId)(r:Option AV):Option QR:=match r with
 |none=>some (.yC (.map [] 0))
 |some v=>match P.underlying t with
  |some (.map _ _)=>match eD v with
   |some _=>some (.yC (.map [] 0))
   |none=>none
  |_=>none
def O7(P:Program)(e:TypeId)(l c:Nat):Option QR:=match cN P e with
 |some size=>match kg P e with
  |some bytes=>match dy P e with
   |some z=>if decide (l<=c)&&decide (c<=65536)&&decide (bytes<=65536)&&z.length==size then some (.pS (.cells (fK c (z.map .g)) e) l c)else none
   |none=>none
  |none=>none
 |none=>none
def Oa(a:AV):Option Nat:=match lK a with
 |some (.ofNat n)=>some n
 |_=>none
def qp(P:Program)(t:TypeId)(l c:AV):Option QR:=match P.underlying t with
 |some (.slice e)=>match Oa l with
  |some l=>match Oa c with
   |some c=>O7 P e l c
   |none=>none
  |none=>none
 |_=>none
def Ua:AV->Option QR
 | .sl _ _ _ c=>some (.val (.g (goInt c)))
 | .g (.slice _ _ c)=>some (.val (.g (goInt c)))
 |_=>none
def TN(P:Program)(x y:AV):Option QR:=match x.pd with
 |some a=>match y.pd with
  |some b=>match br P (Builtin.min2 a b)with|some r=>some (.val (.g r))|none=>none
  |none=>none
 |none=>none
def O1(P:Program)(x y:AV):Option QR:=match x.pd with
 |some a=>match y.pd with
  |some b=>match br P (Builtin.max2 a b)with|some r=>some (.val (.g r))|none=>none
  |none=>none
 |none=>none
def tO(P:Program)(h:aG)(ev:Operand->AV)(c:Call):Option QR:=match c.callee with
 | .builtin b=>match c.args.toList with
  |[x]=>match c.argTypes.toList with
   |[t]=>match b with
    | .len=>qv (MK P t h (ev x))
    | .cap=>match P.underlying t with
     |some (.slice _)=>Ua (ev x)
     |_=>none
    |_=>none
   |_=>none
  |[x,y]=>match b with
   | .min=>TN P (ev x) (ev y)
   | .max=>O1 P (ev x) (ev y)
   |_=>none
  |_=>none
 |_=>none
def yl(P:Program)(t:TypeId)(x:AV)(lo hi mx:Option AV):Option QR:=match mx with
 |none=>qv (eS P t x lo hi)
 |some m=>match hi with
  |some h=>qv (mz P t x lo h m)
  |none=>none
def jF(P:Program)(x:AV)(t:TypeId)(ok:Bool):Option QR:=match x with
 | .kB t' v=>match P.underlying t with
  |some (.interface _)=>none
  |some _=>if ok then(if t'=t then some (.val (.dN [v,.g (.bool true)]))else match mc P t with
   |some z=>some (.val (.dN [.g z,.g (.bool false)]))
   |none=>none)
   else if t'=t then some (.val v)else none
  |none=>none
 |_=>none
def dE(P:Program)(h:aG)(ev:Operand->AV)(o:Oper):Option QR:=
 (match o.op with
 | .move x=>λ_ _ ev=>some (.val (ev x))
 | .pick c a b=>λ_ _ ev=>DP (ev c) (ev a) (ev b)
 | .load t a=>λP h ev=>qv (vD P h t (ev a))
 | .nilCheck x=>λ_ _ ev=>Ob (ev x)
 | .fieldAddr s x f=>λP _ ev=>yK P s f (ev x)
 | .binOp op t x y _=>λP h ev=>qv (cZ P h op t x y (ev x) (ev y))
 | .extract x i=>λ_ _ ev=>Nw i (ev x)
 | .indexAddr t x i=>λP _ ev=>Jt P t (ev x) (ev i)
 | .unOp op _ x=>λP _ ev=>qUn P op (ev x)
 | .convert s d x=>λP h ev=>qv (nD P h s d (ev x))
 | .index t x i=>λP _ ev=>rH P t (ev x) (ev i)
 | .slice t x lo hi mx=>λP _ ev=>yl P t (ev x) (lo.map ev) (hi.map ev) (mx.map ev)
 | .typeAssert x _ t ok=>λP _ ev=>jF P (ev x) t ok
 | .makeInterface t x=>λP _ ev=>kX P t (ev x)
 | .makeFunc fn first cap=>λ_ _ ev=>qFn fn first cap ev
 | .lookup t x i ok=>λP h ev=>qv (my P h t (ev x) (ev i) ok)
 | .alloc elem=>λP _ _=>yW P elem
 | .box elem x=>λ_ _ ev=>Uq elem (ev x)
 | .build t parts=>λP _ ev=>uo P ev t parts.toList
 | .buildSlice t len parts=>λP _ ev=>fy P ev t len parts.toList
 | .makeMap t r=>λP _ ev=>SM P t (r.map ev)
 | .makeSlice t l c=>λP _ ev=>qp P t (ev l) (ev c)
 | .call c=>λP h ev=>tO P h ev c
 |_=>λ_ _ _=>none:Program->aG->(Operand->AV)->Option QR) P h ev
def Zr(c:Call):Bool:=match c.callee with
 | .builtin .len| .builtin .cap| .builtin .min| .builtin .max=>false
 |_=>true
def ct:Op->Bool
 | .assign _| .store .. | .mapUpdate .. | .insert .. | .defer _=>true
 | .call c=>Zr c
 |_=>false
inductive Ext where
 |cmp|Mq (t:TypeId)|load (t:Extern.Atomic.T)|store|cas (t:Extern.Atomic.T)|add (k:IntKind)|mark1|mark0
inductive ER where
 |val (v:AV) (h:aG)
 |pT (o:AO) (len:Nat) (h:aG)
 |enter (f:FuncId) (args:List AV)
 |defer (d:AD)
 |round (l:Nat) (args:List AV)
def eQ(h:aG)(b off:Nat)(vs:List AV):Option aG:=match au h b with
 |some (.cells cs e)=>match dJ off cs vs with|some r=>some (aK h b (.cells r e))|none=>none
 |some (.eP cs e es)=>match dJ off cs vs with|some r=>some (aK h b (.eP r e es))|none=>none
 |_=>none
def dV(h:aG)(size:Nat):AV->Option (Nat×List AV)
 | .g (.slice none n _)=>if n=0 then some (0,[])else none
 | .sl b off len _=>match cK h b off (len*size)with|some l=>some (len,l)|none=>none
 | .mD b off _ len=>match cK h b off (len*size)with|some l=>some (len,l)|none=>none
 | .sle=>some (0,[])
 | .e0=>some (0,[])
 | .fz n cs=>if cs.length=n*size then some (n,cs)else none
 |_=>none
def M9(P:Program)(h:aG)(size:Nat)(z:List AV)(t':TypeId)(x:AV):Option (Nat×List AV):=
 match P.underlying t' with
 |some (.int _)=>match Oa x with
  |some n=>some (n,fK n z)
  |none=>none
 |some (.slice _)=>dV h size x
 |_=>none
def yk(h:aG)(s:AV):Option ER:=match s with
 | .sl b off len cap=>if len<=cap then some (.val (.sl b off len cap) h)else none
 | .mD b off k len=>some (.val (.mD b off k len) h)
 | .g (.slice none 0 0)=>some (.val s h)
 | .e0=>some (.val .e0 h)
 | .fz n cs=>some (.val (.fz n cs) h)
 |_=>none
def P0(h:aG)(e:TypeId)(size b off len cap n:Nat)(new:List AV):Option ER:=
 if len+n<=cap then(if new.all AV.cy then(match eQ h b (off+len*size) new with
  |some h'=>some (.val (.sl b off (len+n) cap) h')
  |none=>none)else none)
 else if 65536<=len+n then none else match cK h b off (len*size)with
  |some old=>some (.pT (.eP (old++new) e size) (len+n) h)
  |none=>none
def Qz(h:aG)(e:TypeId)(size b off k len n:Nat)(new:List AV):Option ER:=match au h b with
 |some (.eP cs e' es)=>
  if es=size/\off=k*size/\e'=e then
   if !new.all AV.cy then none else
   if off+(len+n)*size<=cs.length then(match eQ h b (off+len*size) new with
    |some h'=>some (.val (.mD b off k (len+n)) h')
    |none=>none)
   else if cs.length=off+len*size/\k=0/\len+n<65536 then some (.pT (.eP (cs++new) e size) (len+n) (aK h b .dead))
   else none
  else none
 |_=>none
def pQ(h:aG)(e:TypeId)(size n:Nat)(new:List AV)(s:AV):Option ER:=
 if n=0 then yk h s else match s with
 | .g (.slice none 0 0)=>some (.pT (.eP new e size) n h)
 | .e0=>some (.pT (.eP new e size) n h)
 | .sl b off len cap=>P0 h e size b off len cap n new
 | .mD b off k len=>Qz h e size b off k len n new
 |_=>none
def NY(size bytes n:Nat)(z:List Value):Bool:=decide (0<size)&&decide (0<bytes)&&decide (bytes<65536)&&decide (n<65536)&&z.length==size
def Sy(P:Program)(h:aG)(e t':TypeId)(s x:AV):Option ER:=match cN P e with
 |some size=>match kg P e with
  |some bytes=>match dy P e with
   |some z=>match M9 P h size (z.map .g) t' x with
    |some p=>if NY size bytes p.1 z then pQ h e size p.1 p.2 s else none
    |none=>none
   |none=>none
  |none=>none
 |none=>none
def gj(P:Program)(h:aG)(types:Array TypeId)(s x:AV):Option ER:=
 match types.toList with
 |[t,t']=>match P.underlying t with
  |some (.slice e)=>Sy P h e t' s x
  |_=>none
 |_=>none
def kR(r:Option aG):Option ER:=match r with
 |some h'=>some (.val (.g undef) h')
 |none=>none
def isU(v:AV):Bool:=match v with
 | .g (.pointer none)=>true
 | .ptr _ _=>true
 |_=>false
def xe(h:aG)(t:Extern.Atomic.T)(b off:Nat):Option ER:=match cK h b off 1 with
 |some [v]=>match t with
  | .int k=>match eD v with
   |some (k',_)=>if k=k' then some (.val v h)else none
   |none=>none
  | .ptr=>if isU v then some (.val v h)else none
 |_=>none
def wC(h:aG)(b off:Nat)(v:AV):Option ER:=if v.cy then kR (eQ h b off [v])else none
def Ik(h:aG)(b off:Nat)(k:IntKind)(z x y:Int):Option ER:=
 if z=x then(match eQ h b off [.g (.int k y)]with
  |some h'=>some (.val (.g (.bool true)) h')
  |none=>none)
 else some (.val (.g (.bool false)) h)
def JM(h:aG)(t:Extern.Atomic.T)(b off:Nat)(x y:AV):Option ER:=match t with
 | .int k'=>match cK h b off 1 with
  |some [v]=>match eD v with
   |some (k,z)=>match eD x with
    |some (k1,x)=>match eD y with
     |some (k2,y)=>if k=k'/\k1=k'/\k2=k' then Ik h b off k' z x y else none
     |none=>none
    |none=>none
   |none=>none
  |_=>none
 |_=>none
def RY(h:aG)(k:IntKind)(b off:Nat)(y:AV):Option ER:=match cK h b off 1 with
 |some [v]=>match eD v with
  |some (k2,x)=>match eD y with
   |some (k1,y)=>if k2=k/\k1=k then(match eQ h b off [.g (.int k (cF k (x+y)))]with
    |some h'=>some (.val (.g (.int k (cF k (x+y)))) h')
    |none=>none)else none
   |none=>none
  |none=>none
 |_=>none
def abF(v:AV):Bool:=match v with
 | .g (.pointer (some _))=>true
 | .ptr _ _=>true
 |_=>false
def Hm:AV->Option Nat
 | .sl b _ _ _=>some b
 | .mD b _ _ _=>some b
 |_=>none
def jl(h:aG)(b:Nat):Bool:=match au h b with
 |some o=>match o.cells? with|some (_::_)=>true|_=>false
 |none=>false
def dt(h:aG)(e:Ext)(args:List AV):Option ER:=match e with
 | .Mq _=>match args with
  |[x,y]=>match Hm x with
   |some b=>match Hm y with
    |some b'=>if b≠b'/\jl h b=true/\jl h b'=true then some (.val (.g (.bool false)) h)else none
    |none=>none
   |none=>none
  |_=>none
 | .cmp=>match args with
  |[.g (.string a),.g (.string b)]=>some (.val (.g (goInt (Extern.BytealgCompare.cmp a b))) h)
  |_=>none
 | .load t=>match args with
  |[.ptr b off]=>xe h t b off
  |_=>none
 | .store=>match args with
  |[.ptr b off,v]=>wC h b off v
  |_=>none
 | .cas t=>match args with
  |[.ptr b off,x,y]=>JM h t b off x y
  |_=>none
 | .add k=>match args with
  |[.ptr b off,y]=>RY h k b off y
  |_=>none
 | .mark1=>match args with
  |[v]=>if abF v then some (.val (.g undef) h)else none
  |_=>none
 | .mark0=>match args with
  |[]=>some (.val (.g undef) h)
  |_=>none
def fk(P:Program)(xt:FuncId->Option Ext)(h:aG)(f:FuncId)(args:List AV):Option ER:=
 match xt f with
 |none=>match P.funcs[f]? with
  |some fn=>match fn.body with
   |some _=>some (.enter f args)
   |none=>none
  |none=>none
 |some e=>dt h e args
def lT(P:Program)(t:TypeId)(name:String):Option FuncId:=match P.info? t with
 |some i=>match i.methods.toList.find? (·.name==name)with
  |some m=>if m.path.isEmpty then(match m.func with
   |some (f,p)=>match P.underlying t with
    |some (.pointer _)=>if p then some f else none
    |some _=>if p then none else some f
    |none=>none
   |none=>none)else none
  |none=>none
 |none=>none
def ou(P:Program)(xt:FuncId->Option Ext)(h:aG)(f:AV)(args:List AV):Option ER:=match f with
 | .fn f cap=>fk P xt h f (args++cap)
 | .sO l=>match au h l with
  |some (.loop r)=>if r.params.length=args.length then some (.round l args)else none
  |_=>none
 |_=>none
def pI:AV->Option Nat
 | .sl _ _ n _=>some n
 | .mD _ _ _ n=>some n
 | .e0=>some 0
 | .sle=>some 0
 | .g (.slice none n _)=>if n=0 then some 0 else none
 |_=>none
def oW(h:aG)(cs:List AV):AV->Option aG
 | .sl b off _ _=>eQ h b off cs
 | .mD b off _ _=>eQ h b off cs
 |_=>none
def tQ(h:aG)(size n:Nat)(cs:List AV)(d:AV):Option ER:=
 if n=0 then some (.val (.g (goInt 0)) h)else match de (n*size) cs with
 |some q=>if q.all AV.cy then(match oW h q d with
  |some h'=>some (.val (.g (goInt n)) h')
  |none=>none)else none
 |none=>none
def qK(P:Program)(h:aG)(types:Array TypeId)(d s:AV):Option ER:=match types.toList with
 |[t,t']=>match P.underlying t with
  |some (.slice e)=>match P.underlying t' with
   |some (.slice _)=>match cN P e with
    |some size=>match pI d with
     |some dn=>match dV h size s with
      |some p=>tQ h size (Nat.min p.1 dn) p.2 d
      |none=>none
     |none=>none
    |none=>none
   |_=>none
  |_=>none
 |_=>none
def qi(P:Program)(h:aG)(types:Array TypeId)(d:AV):Option ER:=match types.toList with
 |[t]=>match P.underlying t with
  |some (.slice e)=>match dy P e with
   |some z=>match pI d with
    |some n=>if n=0 then some (.val (.g undef) h)else if(z.map AV.g).all AV.cy then kR (oW h (fK n (z.map .g)) d)else none
    |none=>none
   |none=>none
  |_=>none
 |_=>none
def Ei(h:aG)(b:Nat)(es:List (AV×AV×Nat))(clock:Nat):Option (Option (Nat×AV))->Option aG
 |some (some x)=>some (aK h b (.map (es.eraseIdx x.1) clock))
 |some none=>some (aK h b (.map es clock))
 |none=>none
def uX(P:Program)(h:aG)(types:Array TypeId)(m k:AV):Option ER:=match types.toList with
 |t::_=>match P.underlying t with
  |some (.map kt _)=>match P.underlying kt with
   |some kd=>if nP kd then(match m with
    | .mp b=>match au h b with
     |some (.map es clock)=>kR (Ei h b es clock (iF kd k es 0))
     |_=>none
    |_=>none)else none
   |none=>none
  |_=>none
 |_=>none
def uq(P:Program)(h:aG)(t:TypeId)(a x:AV):Option ER:=match a with
 | .ptr b off=>match x.cells with
  |some cs=>match cN P t with
   |some n=>if cs.length==n&&cs.all AV.cy then kR (eQ h b off cs)else none
   |none=>none
  |none=>none
 |_=>none
def nO(P:Program)(xt:FuncId->Option Ext)(h:aG)(name:String)(args:List AV):AV->Option ER
 | .kB t v=>match lT P t name with
  |some f=>fk P xt h f (v::args)
  |none=>none
 |_=>none
def tp(P:Program)(xt:FuncId->Option Ext)(h:aG)(ev:Operand->AV)(c:Call):Option ER:=match c.callee with
 | .value f=>ou P xt h (ev f) (c.args.toList.map ev)
 | .invoke r name=>nO P xt h name (c.args.toList.map ev) (ev r)
 | .builtin b=>match b with
  | .append=>match c.args.toList with
   |[s,x]=>gj P h c.argTypes (ev s) (ev x)
   |_=>none
  | .copy=>match c.args.toList with
   |[d,s]=>qK P h c.argTypes (ev d) (ev s)
   |_=>none
  | .clear=>match c.args.toList with
   |[d]=>qi P h c.argTypes (ev d)
   |_=>none
  | .delete=>match c.args.toList with
   |[m,k]=>uX P h c.argTypes (ev m) (ev k)
   |_=>none
  |_=>none
def ES(args:List AV):AV->Option ER
 | .fn f cap=>some (.defer (.fn f cap args))
 |_=>none
def pW(ev:Operand->AV)(c:Call):Option ER:=match c.callee with
 | .value f=>ES (c.args.toList.map ev) (ev f)
 |_=>none
def nE(P:Program)(xt:FuncId->Option Ext)(h:aG)(ev:Operand->AV)(o:Oper):Option ER:=
 (match o.op with
 | .assign x=>λ_ _ h ev=>some (.val (ev x) h)
 | .store t a x=>λP _ h ev=>uq P h t (ev a) (ev x)
 | .mapUpdate t m k x=>λP _ h ev=>kR (qA P h t (ev m) (ev k) (ev x))
 | .insert t m k x=>λP _ h ev=>kR (qA P h t (ev m) (ev k) (ev x))
 | .call c=>λP xt h ev=>tp P xt h ev c
 | .defer c=>λ_ _ _ ev=>pW ev c
 |_=>λ_ _ _ _=>none:Program->(FuncId->Option Ext)->aG->(Operand->AV)->Option ER) P xt h ev
structure dz where
 i:Nat
 o:Oper
 yD:Nat
 xL:Bool
def kE:List Oper->Nat->List Nat->List dz
 |[],_,_=>[]
 |o::l,i,acc=>
  let a:=o.after.toList.foldl (λs e=>if Region.binds .any e then s|||2^e.on|||(match iW e.on acc with|some x=>x|none=>0)else s) 0
  ⟨i,o,a,ct o.op⟩::kE l (i+1) (acc++[a])
def te(ops:Array Oper)(A:List dz):Bool:=
 A.all (λx=>x.o.after.toList.all (λe=> !Region.binds .any e||decide (e.on<x.i)))&&
 A.all (λx=> !x.xL||A.all λy=> !y.xL|| !decide (x.i<y.i)||y.yD.testBit x.i)&&
 A.all (λx=>x.xL||match x.o.dst with
  |none=>true
  |some d=> !(x.o.looksAt ops).contains d&&A.all λy=>y.i==x.i|| !((y.o.looksAt ops).contains d||y.o.dst==some d)||y.yD.testBit x.i)
inductive Phase where
 |unsat|sat|wait
structure lA where
 phase:Phase
 infos:List dz
 dX:List dz
 last:Option dz
 base:Nat
 ops:Array Oper
inductive dc where
 |code (c:Code)
 |inBlock (id:Nat)
 |inLoop (body:Code)
 |ops (l:List Oper) (ops:Array Oper)
 |jK (r:lA)
 |jQ (l:Nat)
 |jW (l:Nat)
 |beginRound
structure bI where
 fn:FuncId
 cE:BT AV
 size:Nat
 todo:List dc
 defers:List AD
 ret:Bool
 deferred:Bool
 roundOf:Option Nat
structure AM where
 fr:bI
 callers:List bI
 heap:aG
 next:Nat
def bI.jV(fr:bI)(t:List dc):bI:=match fr with
 |⟨a,b,c,_,e,f,g,h⟩=>⟨a,b,c,t,e,f,g,h⟩
def bI.yP(fr:bI)(t:BT AV):bI:=match fr with
 |⟨a,_,c,d,e,f,g,h⟩=>⟨a,t,c,d,e,f,g,h⟩
def bI.uW(fr:bI)(t:List AD):bI:=match fr with
 |⟨a,b,c,d,_,f,g,h⟩=>⟨a,b,c,d,t,f,g,h⟩
def bI.aim(fr:bI):bI:=match fr with
 |⟨a,b,c,d,e,_,g,h⟩=>⟨a,b,c,d,e,true,g,h⟩
def AM.wFr(m:AM)(fr:bI):AM:=match m with
 |⟨_,cs,h,nx⟩=>⟨fr,cs,h,nx⟩
def AM.FK(m:AM)(fr:bI)(h:aG):AM:=match m with
 |⟨_,cs,_,nx⟩=>⟨fr,cs,h,nx⟩
def AM.HD(m:AM)(fr:bI)(cs:List bI):AM:=match m with
 |⟨_,_,h,nx⟩=>⟨fr,cs,h,nx⟩
def AM.KT(m:AM)(fr:bI)(h:aG)(k:Nat):AM:=match m with
 |⟨_,cs,_,nx⟩=>⟨fr,cs,h,nx+k⟩
def lA.ot(r:lA)(p:Phase):lA:=match r with
 |⟨_,a,b,c,d,e⟩=>⟨p,a,b,c,d,e⟩
def lA.after(r:lA)(rest:List dz)(e:dz):lA:=match r with
 |⟨_,a,_,_,d,f⟩=>⟨.unsat,a,rest,some e,d,f⟩
def mM.fY(l:mM)(s:LoopState)(p:Option Code):mM:=match l with
 |⟨_,_,a,b,c,d,e,f,g⟩=>⟨s,p,a,b,c,d,e,f,g⟩
def oZ(s:BT AV):Operand->AV
 | .tmp t=>ao s t
 | .const v=> .g v
 | .global g=> .g (.pointer (some ⟨g,0,none⟩))
 | .func f=> .fn f []
def bI.put(fr:bI)(d:Option Tmp)(v:AV):Option bI:=match d with
 |none=>some fr
 |some d=>if d<fr.size then some (fr.yP (sset fr.cE d v))else none
def dO(ops:Array Oper)(s:BT AV)(o:Oper):Option Bool:=match o.guard with
 |none=>some true
 |some (j,want)=>match ops[j]? with
  |some o'=>match o'.dst with
   |some d=>match ao s d with
    | .g (.bool b)=>some (b==want)
    | .g (.tuple _)=>some false
    |_=>none
   |none=>none
  |none=>none
mutual
def UI:Value->Value->Bool
 | .bool a,.bool b=>a==b
 | .int k a,.int k' b=>k==k'&&a==b
 | .string a,.string b=>a.data.toList==b.data.toList
 | .pointer none,.pointer none=>true
 | .pointer (some a),.pointer (some b)=>a==b
 | .slice none a b,.slice none c d=>a==c&&b==d
 | .map none,.map none=>true
 | .nilFunc,.nilFunc=>true
 | .nilIface,.nilIface=>true
 | .func (.func f) ⟨[]⟩ ⟨[]⟩,.func (.func g) ⟨[]⟩ ⟨[]⟩=>f==g
 | .tuple ⟨[]⟩,.tuple ⟨[]⟩=>true
 | .agg ⟨a⟩,.agg ⟨b⟩=>NV a b
 |_,_=>false
def NV:List Value->List Value->Bool
 |[],[]=>true
 |a::as,b::bs=>UI a b&&NV as bs
 |_,_=>false
end
mutual
def tc:AV->AV->Bool
 | .g a,.g b=>UI a b
 | .ptr a b,.ptr c d=>a==c&&b==d
 | .sl a b c d,.sl a' b' c' d'=>a==a'&&b==b'&&c==c'&&d==d'
 | .mD a b c d,.mD a' b' c' d'=>a==a'&&b==b'&&c==c'&&d==d'
 | .sle,.sle=>true
 | .mp a,.mp b=>a==b
 | .sO a,.sO b=>a==b
 | .fz n a,.fz m b=>n==m&&uk a b
 | .fp a,.fp b=>uk a b
 | .e0,.e0=>true
 | .fn f c,.fn g d=>f==g&&uk c d
 | .kB t v,.kB u w=>t==u&&tc v w
 | .agg a,.agg b=>uk a b
 | .dN a,.dN b=>uk a b
 |_,_=>false
def uk:List AV->List AV->Bool
 |[],[]=>true
 |a::as,b::bs=>tc a b&&uk as bs
 |_,_=>false
end
def adU:AO->AO->Bool
 | .cells a e,.cells b f=>e==f&&uk a b
 | .map [] 0,.map [] 0=>true
 |_,_=>false
def QR.obj:QR->Option AO
 | .val _=>none
 | .xa o| .pS o _ _| .yC o=>some o
def kN(rem:Nat)(x:dz):Bool:=(x.yD&&&rem)==0
def qy(last:Option dz)(x:dz):Bool:=match last with
 |none=>false
 |some e=>e.yD.testBit x.i
def rz(last:Option dz)(x:dz):Bool:=match last with
 |none=>true
 |some e=>x.yD.testBit e.i
def iR:List dz->Nat
 |[]=>0
 |x::l=>2^x.i|||iR l
def saturate(P:Program)(r:lA)(rem:Nat):List dz->bI->aG->Option (bI×aG)
 |[],fr,h=>some (fr,h)
 |x::l,fr,h=>
  if kN rem x&&rz r.last x then
   match dO r.ops fr.cE x.o with
   |some true=>match dE P h (oZ fr.cE) x.o with
    |some q=>match fr.put x.o.dst (q.av (r.base+x.i))with
     |some yH=>saturate P r rem l yH (match q.obj with|some o=>aK h (r.base+x.i) o|none=>h)
     |none=>none
    |none=>none
   |some false=>match fr.put x.o.dst (.g undef)with
    |some yH=>saturate P r rem l yH h
    |none=>none
   |none=>none
  else saturate P r rem l fr h
def BU(P:Program)(r:lA)(s:BT AV)(h:aG)(x:dz):Bool:=
 match dO r.ops s x.o with
 |some true=>match dE P h (oZ s) x.o with
  |some q=>(match x.o.dst with|some d=>tc (ao s d) (q.av (r.base+x.i))|none=>true)&&
   (match q.obj with
    |some o=>match au h (r.base+x.i)with|some o'=>adU o' o|none=>false
    |none=>true)
  |none=>false
 |some false=>match x.o.dst with|some d=>tc (ao s d) (.g undef)|none=>true
 |none=>false
def tT(P:Program)(r:lA)(rem:Nat)(s:BT AV)(h:aG):List dz->Bool
 |[]=>true
 |x::l=>(!(kN rem x)||qy r.last x||BU P r s h x)&&tT P r rem s h l
def bI.finish(fr:bI)(v:AV):Option bI:=match fr.todo with
 | .ops (o::l) a::k=>match fr.put o.dst v with
  |some yH=>some (yH.jV (.ops l a::k))
  |none=>none
 | .jK r::k=>match r.phase,r.dX with
  | .wait,e::rest=>match fr.put e.o.dst v with
   |some yH=>some (yH.jV (.jK (r.after rest e)::k))
   |none=>none
  |_,_=>none
 | .jQ l::k=>some (fr.jV (.jW l::k))
 |_=>none
def ey:List AV->Nat->BT AV->BT AV
 |[],_,t=>t
 |v::l,i,t=>ey l (i+1) (sset t i v)
def bI.enter(P:Program)(f:FuncId)(args:List AV)(deferred:Bool):Option bI:=
 match P.funcs[f]? with
 |some fn=>match fn.body with
  |some c=>if args.length<=fn.ntmps then some {fn:=f,cE:=ey args 0 .nil,size:=fn.ntmps,todo:=[.code c],defers:=[],ret:=false,deferred,roundOf:=none}else none
  |none=>none
 |none=>none
def ju:List Tmp->List AV->Nat->BT AV->Option (BT AV)
 |[],[],_,t=>some t
 |p::ps,v::vs,size,t=>if p<size then ju ps vs size (sset t p v)else none
 |_,_,_,_=>none
def nL(id:Nat):List dc->Option (List dc)
 | .inBlock zQ::k=>if zQ==id then some k else nL id k
 |_::k=>nL id k
 |[]=>none
def upon(P:Program)(m:AM)(wait:bI):ER->Option AM
 | .val v h=>match wait.finish v with
  |some fr=>some (m.FK fr h)
  |none=>none
 | .pT o len h=>match wait.finish (.mD m.next 0 0 len)with
  |some fr=>some (m.KT fr (aK h m.next o) 1)
  |none=>none
 | .enter f args=>match bI.enter P f args false with
  |some fr=>some (m.HD fr (wait::m.callers))
  |none=>none
 | .defer d=>match wait.roundOf with
  |none=>match(wait.uW (d::wait.defers)).finish (.g undef)with
   |some fr=>some (m.wFr fr)
   |none=>none
  |some _=>none
 | .round l args=>match au m.heap l with
  |some (.loop r)=>match ju r.params args r.size r.cE with
   |some cE=>some {m with
    fr:={fn:=r.fn,cE,size:=r.size,todo:=[.code r.assign,.beginRound,.code r.body],defers:=[],ret:=false,deferred:=false,roundOf:=some l},
    callers:=wait::m.callers}
   |none=>none
  |_=>none
def eo(P:Program)(h:aG)(s:BT AV):List ResultVar->Option (List AV)
 |[]=>some []
 | .tmp t::l=>match eo P h s l with|some r=>some (ao s t::r)|none=>none
 | .cell a t::l=>match vD P h t (ao s a)with
  |some v=>match eo P h s l with|some r=>some (v::r)|none=>none
  |none=>none
def one(vs:List AV):AV:=match vs with
 |[v]=>v
 |vs=> .dN vs
def endRound(m:AM)(l:Nat)(pD:Option Code):Option AM:=
 match au m.heap l,m.callers with
 |some (.loop r),c::cs=>match c.finish (.g (.bool pD.isNone))with
  |some fr=>some ((m.HD fr cs).FK fr (aK m.heap l (.loop (r.fY (if pD.isNone then .ready else .done) pD))))
  |none=>none
 |_,_=>none
def leave(m:AM)(pD:Option Code):Option AM:=match m.fr.roundOf with
 |none=>match pD with
  |none|some .ret=>some (m.wFr m.fr.aim)
  |_=>none
 |some l=>if m.fr.deferred then none else endRound m l pD
def qZ:List dc->Bool
 | .jK _::_=>true
 |_=>false
def xB(m:AM)(v:AV)(c:bI)(cs:List bI):Option AM:=
 if m.fr.deferred then(if c.ret then some (m.HD c cs)else none)
 else match c.finish v with
  |some fr=>some (m.HD fr cs)
  |none=>none
def EI(P:Program)(m:AM):Option AM:=
 match m.fr.defers with
 | .vr b::ds=>match au m.heap b with
  |some (.defs (some calls))=>some (m.FK (m.fr.uW (calls++ds)) (aK m.heap b (.defs none)))
  |_=>none
 | .fn f cap args::ds=>match bI.enter P f (args++cap) true with
  |some fr=>some (m.HD fr (m.fr.uW ds::m.callers))
  |none=>none
 |[]=>match m.callers with
  |[]=>none
  |c::cs=>if qZ m.fr.todo then none else match P.funcs[m.fr.fn]? with
   |some fn=>match eo P m.heap m.fr.cE fn.results.toList with
    |some vs=>xB m (one vs) c cs
    |none=>none
   |none=>none
def yo(m:AM)(o:Oper)(k:List dc):Option AM:=match m.fr.put o.dst (.g undef)with
 |some fr=>some (m.wFr (fr.jV k))
 |none=>none
def xj(m:AM)(o:Oper)(k:List dc):Option QR->Option AM
 |some q=>match q.obj with
  |none=>match m.fr.put o.dst (q.av 0)with
   |some fr=>some (m.wFr (fr.jV k))
   |none=>none
  |some ob=>match m.fr.put o.dst (q.av m.next)with
   |some fr=>some (m.KT (fr.jV k) (aK m.heap m.next ob) 1)
   |none=>none
 |none=>none
def se(P:Program)(m:AM)(wait:bI):Option ER->Option AM
 |some r=>upon P m wait r
 |none=>none
def UQ(P:Program)(xt:FuncId->Option Ext)(m:AM)(o:Oper)(k:List dc)(ops:Array Oper):Option AM:=
 match dO ops m.fr.cE o with
 |some w=>if w then(if ct o.op then se P m m.fr (nE P xt m.heap (oZ m.fr.cE) o)else xj m o k (dE P m.heap (oZ m.fr.cE) o))
  else yo m o k
 |none=>none
def to(m:AM)(todo:List dc):Option AM:=some (m.wFr (m.fr.jV todo))
def tX(m:AM)(thn els:Code)(k:List dc):AV->Option AM
 | .g (.bool b)=>to m (.code (if b then thn else els)::k)
 |_=>none
def tY(m:AM)(id:Nat)(k:List dc):Option AM:=match nL id k with
 |some k'=>to m k'
 |none=>leave m (some (.exit id))
def zB(n:Nat):List dz->Bool
 |[]=>true
 |x::l=>(match x.o.dst with|some d=>decide (d<n)|none=>true)&&zB n l
def BX(m:AM)(ops:Array Oper)(k:List dc)(is:List dz):Option AM:=
 if te ops is&&zB m.fr.size is then some (m.KT (m.fr.jV (.jK {phase:= .unsat,infos:=is.filter (!·.xL),dX:=is.filter (·.xL),last:=none,base:=m.next,ops}::k)) m.heap ops.size)
 else none
def yJ(fr:bI)(params:List Tmp)(assign body:Code)(defers:Nat):mM:=
 {state:= .ready,pending:=none,fn:=fr.fn,cE:=fr.cE,size:=fr.size,params,assign,body,defers}
def yq(P:Program)(xt:FuncId->Option Ext)(m:AM)(f:Operand)(params:List Tmp)(assign body:Code)(k:List dc):Option AM:=
 match m.fr.roundOf with
 |none=>
  let h:=aK (aK m.heap m.next (.defs (some []))) (m.next+1) (.loop (yJ m.fr params assign body m.next))
  se P (m.KT m.fr h 2) ((m.fr.jV (.jQ (m.next+1)::k)).uW (.vr m.next::m.fr.defers)) (ou P xt h (oZ m.fr.cE f) [.sO (m.next+1)])
 |some o=>match au m.heap o with
  |some (.loop lo)=>
   let h:=aK m.heap m.next (.loop (yJ m.fr params assign body lo.defers))
   se P (m.KT m.fr h 1) (m.fr.jV (.jQ m.next::k)) (ou P xt h (oZ m.fr.cE f) [.sO m.next])
  |_=>none
def vQ(m:AM)(ops:Array Oper)(draw:Bool)(k:List dc):Option AM:=
 if draw then BX m ops k (kE ops.toList 0 [])else to m (.ops ops.toList ops::k)
def BE(P:Program)(xt:FuncId->Option Ext)(m:AM)(c:Code)(k:List dc):Option AM:=
 (match c with
 | .ret=>λ_ _ m _=>leave m (some .ret)
 | .skip=>λ_ _ m k=>to m k
 | .seq a b=>λ_ _ m k=>to m (.code a:: .code b::k)
 | .cond c thn els=>λ_ _ m k=>tX m thn els k (oZ m.fr.cE c)
 | .block id body=>λ_ _ m k=>to m (.code body:: .inBlock id::k)
 | .loop body=>λ_ _ m k=>to m (.code body:: .inLoop body::k)
 | .exit id=>λ_ _ m k=>tY m id k
 | .region _ ops draw=>λ_ _ m k=>vQ m ops draw k
 | .rangeFunc f params assign body=>λP xt m k=>yq P xt m f params.toList assign body k
 |_=>λ_ _ _ _=>none:Program->(FuncId->Option Ext)->AM->List dc->Option AM) P xt m k
def FX(P:Program)(m:AM)(r:lA)(k:List dc):Option (bI×aG)->Option AM
 |some (yH,h)=>if tT P r (iR r.dX) yH.cE h r.infos then some (m.FK (yH.jV (.jK (r.ot .sat)::k)) h)else none
 |none=>none
def qz(P:Program)(xt:FuncId->Option Ext)(m:AM)(r:lA)(k:List dc)(e:dz)(rest:List dz):Option AM:=
 match dO r.ops m.fr.cE e.o with
 |some w=>if w then se P m (m.fr.jV (.jK (r.ot .wait)::k)) (nE P xt m.heap (oZ m.fr.cE) e.o)
  else yo m e.o (.jK (r.after rest e)::k)
 |none=>none
def Ff(P:Program)(xt:FuncId->Option Ext)(m:AM)(r:lA)(k:List dc):Option AM:=match r.phase with
 | .unsat=>FX P m r k (saturate P r (iR r.dX) r.infos m.fr m.heap)
 | .sat=>match r.dX with
  |[]=>to m k
  |e::rest=>qz P xt m r k e rest
 | .wait=>none
def pN(m:AM)(l:Nat)(k:List dc):Option AO->Option AM
 |some (.loop r)=>match r.state with
  | .busy=>none
  |_=>some (m.FK (m.fr.jV ((match r.pending with|some c=>[.code c]|none=>[])++k)) (aK m.heap l (.loop (r.fY .exhausted r.pending))))
 |_=>none
def yw(m:AM)(k:List dc):Option AM:=match m.fr.roundOf with
 |some l=>match au m.heap l with
  |some (.loop r)=>match r.state with
   | .ready=>some (m.FK (m.fr.jV k) (aK m.heap l (.loop (r.fY .busy r.pending))))
   |_=>none
  |_=>none
 |none=>none
def EL(P:Program)(xt:FuncId->Option Ext)(m:AM)(l:List Oper)(ops:Array Oper)(k:List dc):Option AM:=match l with
 |[]=>to m k
 |o::l=>UQ P xt m o (.ops l ops::k) ops
def HN(P:Program)(xt:FuncId->Option Ext)(m:AM)(i:dc)(k:List dc):Option AM:=
 (match i with
 | .code c=>λP xt m k=>BE P xt m c k
 | .inBlock _=>λ_ _ m k=>to m k
 | .inLoop body=>λ_ _ m k=>to m (.code body:: .inLoop body::k)
 | .ops l ops=>λP xt m k=>EL P xt m l ops k
 | .jK r=>λP xt m k=>Ff P xt m r k
 | .jW l=>λ_ _ m k=>pN m l k (au m.heap l)
 | .beginRound=>λ_ _ m k=>yw m k
 | .jQ _=>λ_ _ _ _=>none:Program->(FuncId->Option Ext)->AM->List dc->Option AM) P xt m k
def tm(P:Program)(xt:FuncId->Option Ext)(m:AM):Option AM:=
 if m.fr.ret then EI P m else
 match m.fr.todo with
 |[]=>leave m none
 |i::k=>HN P xt m i k
def yi(P:Program)(xt:FuncId->Option Ext):Nat->AM->Option AM
 |0,m=>some m
 |n+1,m=>match tm P xt m with
  |some m'=>yi P xt n m'
  |none=>none
end
end bC
end Go.Proofs.YtonnifoeokagjaaGreat
