/- The theorem plans_holds of OrdersPlans: part 6 of its proof; no conditions. -/
import Derived.Test.YtonnifoeokagjaaGreatF05
import Derived.Test.YtonnifoeokagjaaGreatProg
import Derived.KernelRfl
namespace Go.Proofs.YtonnifoeokagjaaGreat
set_option linter.all false
set_option maxRecDepth 8000
open Go Go.RowKit
open Tryz
open Nat(reduceAdd reduceMul)
namespace bC
noncomputable section
def xt(f:FuncId):Option Ext:=
 if f==145 then some .cmp
 else if f==126 then some (.load (.int .u64))
 else if f==138 then some (.load (.int .u32))
 else if f==122 then some (.load .ptr)
 else if f==135 then some (.cas (.int .u64))
 else if f==173 then some (.cas (.int .i32))
 else if f==178 then some (.add .i32)
 else if f==156 then some .store
 else if f==121 then some .store
 else if f==172 then some .mark0
 else if f==174 then some .mark0
 else if f==175 then some .mark1
 else if f==177 then some .mark1
 else if f==255 then some (.Mq 45)
 else if f==259 then some (.Mq 243)
 else if f==372 then some (.Mq 46)
 else none
theorem YP:Extern.find f255=some (Extern.SlicesOverlaps.overlaps #[45,45] #[4]):=aL
theorem WM:Extern.findNext f255=none:=aL
theorem VK:f255.body=none:=aL
theorem PQ:prog.underlying 45=some (.slice 9)/\∃n,cN prog 9=some n:=⟨aL,1,aL⟩
theorem XX:Extern.find f259=some (Extern.SlicesOverlaps.overlaps #[243,243] #[4]):=aL
theorem VG:Extern.findNext f259=none:=aL
theorem V7:f259.body=none:=aL
theorem TX:prog.underlying 243=some (.slice 245)/\∃n,cN prog 245=some n:=⟨aL,2,aL⟩
theorem ZQ:Extern.find f372=some (Extern.SlicesOverlaps.overlaps #[46,46] #[4]):=aL
theorem YL:Extern.findNext f372=none:=aL
theorem Wt:f372.body=none:=aL
theorem RD:prog.underlying 46=some (.slice 5)/\∃n,cN prog 5=some n:=⟨aL,1,aL⟩
theorem YR:Extern.find f145=some (Extern.BytealgCompare.compare):=aL
theorem VS:Extern.findNext f145=none:=aL
theorem Vk:f145.body=none:=aL
theorem Yf:Extern.find f126=some (Extern.Atomic.loadT (.int .u64)):=aL
theorem ZH:Extern.findNext f126=none:=aL
theorem VP:f126.body=none:=aL
theorem ZD:Extern.find f138=some (Extern.Atomic.loadT (.int .u32)):=aL
theorem VC:Extern.findNext f138=none:=aL
theorem U8:f138.body=none:=aL
theorem Xt:Extern.find f122=some (Extern.Atomic.loadT .ptr):=aL
theorem X5:Extern.findNext f122=none:=aL
theorem Wq:f122.body=none:=aL
theorem Xd:Extern.find f135=some (Extern.Atomic.casT (.int .u64)):=aL
theorem XK:Extern.findNext f135=none:=aL
theorem Wa:f135.body=none:=aL
theorem aaO:Extern.find f173=some (Extern.Atomic.casT (.int .i32)):=aL
theorem Yz:Extern.findNext f173=none:=aL
theorem aab:f173.body=none:=aL
theorem Zc:Extern.find f178=some (Extern.Atomic.update (Op.intArith .add) .i32 true):=aL
theorem aaM:Extern.findNext f178=none:=aL
theorem aaj:f178.body=none:=aL
theorem YY:Extern.find f156=some (Extern.Atomic.storeT):=aL
theorem VX:Extern.findNext f156=none:=aL
theorem VB:f156.body=none:=aL
theorem Yg:Extern.find f121=some (Extern.Atomic.storeT):=aL
theorem Y8:Extern.findNext f121=none:=aL
theorem YS:f121.body=none:=aL
theorem XF:Extern.find f172=some ((λ_=>do mark .disable;pure Extern.Race.none_)):=aL
theorem aaB:Extern.findNext f172=none:=aL
theorem Yq:f172.body=none:=aL
theorem Wf:Extern.find f174=some ((λ_=>do mark .enable;pure Extern.Race.none_)):=aL
theorem aaR:Extern.findNext f174=none:=aL
theorem aaI:f174.body=none:=aL
theorem WO:Extern.find f175=some (Extern.Race.marked .acquire):=aL
theorem Y':Extern.findNext f175=none:=aL
theorem Wl:f175.body=none:=aL
theorem Vq:Extern.find f177=some (Extern.Race.marked .releaseMerge):=aL
theorem Zp:Extern.findNext f177=none:=aL
theorem Yv:f177.body=none:=aL
theorem OJ:prog.funcs.toList.all (λfn=> !(fn.name== "runtime.NumGoroutine"))=true:=aL
theorem Ga:prog.follows .mixedOrders=true:=aL
theorem pk:PK prog xt where
 K4 f fn h:=by
  have h1:(!(fn.name== "runtime.NumGoroutine"))=true:=eY.1 OJ fn (Array.mem_toList_iff.2 (Array.mem_of_getElem? h));cases hb:(fn.name== "runtime.NumGoroutine")with
  |false=>rfl
  |true=>rw[hb]at h1;cases h1
 ext f e h:=by
  unfold xt at h;by_cases hf:(f==145)=true
  .rw[aw hf]at h;have hf:f=145:=by simpa using hf
   subst hf;cases h;exact⟨f145,_,func145,Vk,VS,YR,rfl⟩
  rw[ak hf]at h;clear hf;by_cases hf:(f==126)=true
  .rw[aw hf]at h;have hf:f=126:=by simpa using hf
   subst hf;cases h;exact⟨f126,_,func126,VP,ZH,Yf,rfl⟩
  rw[ak hf]at h;clear hf;by_cases hf:(f==138)=true
  .rw[aw hf]at h;have hf:f=138:=by simpa using hf
   subst hf;cases h;exact⟨f138,_,func138,U8,VC,ZD,rfl⟩
  rw[ak hf]at h;clear hf;by_cases hf:(f==122)=true
  .rw[aw hf]at h;have hf:f=122:=by simpa using hf
   subst hf;cases h;exact⟨f122,_,func122,Wq,X5,Xt,rfl⟩
  rw[ak hf]at h;clear hf;by_cases hf:(f==135)=true
  .rw[aw hf]at h;have hf:f=135:=by simpa using hf
   subst hf;cases h;exact⟨f135,_,func135,Wa,XK,Xd,rfl⟩
  rw[ak hf]at h;clear hf;by_cases hf:(f==173)=true
  .rw[aw hf]at h;have hf:f=173:=by simpa using hf
   subst hf;cases h;exact⟨f173,_,func173,aab,Yz,aaO,rfl⟩
  rw[ak hf]at h;clear hf;by_cases hf:(f==178)=true
  .rw[aw hf]at h;have hf:f=178:=by simpa using hf
   subst hf;cases h;exact⟨f178,_,func178,aaj,aaM,Zc,rfl⟩
  rw[ak hf]at h;clear hf;by_cases hf:(f==156)=true
  .rw[aw hf]at h;have hf:f=156:=by simpa using hf
   subst hf;cases h;exact⟨f156,_,func156,VB,VX,YY,rfl⟩
  rw[ak hf]at h;clear hf;by_cases hf:(f==121)=true
  .rw[aw hf]at h;have hf:f=121:=by simpa using hf
   subst hf;cases h;exact⟨f121,_,func121,YS,Y8,Yg,rfl⟩
  rw[ak hf]at h;clear hf;by_cases hf:(f==172)=true
  .rw[aw hf]at h;have hf:f=172:=by simpa using hf
   subst hf;cases h;exact⟨f172,_,func172,Yq,aaB,XF,⟨_,rfl⟩⟩
  rw[ak hf]at h;clear hf;by_cases hf:(f==174)=true
  .rw[aw hf]at h;have hf:f=174:=by simpa using hf
   subst hf;cases h;exact⟨f174,_,func174,aaI,aaR,Wf,⟨_,rfl⟩⟩
  rw[ak hf]at h;clear hf;by_cases hf:(f==175)=true
  .rw[aw hf]at h;have hf:f=175:=by simpa using hf
   subst hf;cases h;exact⟨f175,_,func175,Wl,Y',WO,⟨_,rfl⟩⟩
  rw[ak hf]at h;clear hf;by_cases hf:(f==177)=true
  .rw[aw hf]at h;have hf:f=177:=by simpa using hf
   subst hf;cases h;exact⟨f177,_,func177,Yv,Zp,Vq,⟨_,rfl⟩⟩
  rw[ak hf]at h;clear hf;by_cases hf:(f==255)=true
  .rw[aw hf]at h;have hf:f=255:=by simpa using hf
   subst hf;cases h;exact⟨f255,_,func255,VK,WM,YP,⟨_,rfl⟩⟩
  rw[ak hf]at h;clear hf;by_cases hf:(f==259)=true
  .rw[aw hf]at h;have hf:f=259:=by simpa using hf
   subst hf;cases h;exact⟨f259,_,func259,V7,VG,XX,⟨_,rfl⟩⟩
  rw[ak hf]at h;clear hf;by_cases hf:(f==372)=true
  .rw[aw hf]at h;have hf:f=372:=by simpa using hf
   subst hf;cases h;exact⟨f372,_,func372,Wt,YL,ZQ,⟨_,rfl⟩⟩
  rw[ak hf]at h;clear hf;cases h
 mixed:=Ga
 Mq f t h:=by
  unfold xt at h;by_cases hf:(f==145)=true;.rw[aw hf]at h;cases h
  rw[ak hf]at h;clear hf;by_cases hf:(f==126)=true;.rw[aw hf]at h;cases h
  rw[ak hf]at h;clear hf;by_cases hf:(f==138)=true;.rw[aw hf]at h;cases h
  rw[ak hf]at h;clear hf;by_cases hf:(f==122)=true;.rw[aw hf]at h;cases h
  rw[ak hf]at h;clear hf;by_cases hf:(f==135)=true;.rw[aw hf]at h;cases h
  rw[ak hf]at h;clear hf;by_cases hf:(f==173)=true;.rw[aw hf]at h;cases h
  rw[ak hf]at h;clear hf;by_cases hf:(f==178)=true;.rw[aw hf]at h;cases h
  rw[ak hf]at h;clear hf;by_cases hf:(f==156)=true;.rw[aw hf]at h;cases h
  rw[ak hf]at h;clear hf;by_cases hf:(f==121)=true;.rw[aw hf]at h;cases h
  rw[ak hf]at h;clear hf;by_cases hf:(f==172)=true;.rw[aw hf]at h;cases h
  rw[ak hf]at h;clear hf;by_cases hf:(f==174)=true;.rw[aw hf]at h;cases h
  rw[ak hf]at h;clear hf;by_cases hf:(f==175)=true;.rw[aw hf]at h;cases h
  rw[ak hf]at h;clear hf;by_cases hf:(f==177)=true;.rw[aw hf]at h;cases h
  rw[ak hf]at h;clear hf;by_cases hf:(f==255)=true;.rw[aw hf]at h;injection h with h;cases h;exact⟨_,_,PQ.1,PQ.2.choose_spec⟩
  rw[ak hf]at h;clear hf;by_cases hf:(f==259)=true;.rw[aw hf]at h;injection h with h;cases h;exact⟨_,_,TX.1,TX.2.choose_spec⟩
  rw[ak hf]at h;clear hf;by_cases hf:(f==372)=true;.rw[aw hf]at h;injection h with h;cases h;exact⟨_,_,RD.1,RD.2.choose_spec⟩
  rw[ak hf]at h;clear hf;cases h
variable{t:TypeId}{α:Type}
def vp(P:Program)(t:TypeId):Bool:=match P.underlying t with|some (.struct _)=>true|_=>false
theorem tb1:kg prog 1=some 8:=aL
theorem tv1:mc prog 1=some (.nilFunc):=aL
theorem tv2:mc prog 2=some (.int .i64 0):=aL
theorem ts3:cN prog 3=some 1:=aL
theorem Da:prog.underlying 3=some (.int .i64):=aL
theorem tz3:dy prog 3=some [.int .i64 0]:=aL
theorem ts4:cN prog 4=some 1:=aL
theorem tb4:kg prog 4=some 1:=aL
theorem tu4:prog.underlying 4=some (.bool):=aL
theorem tz4:dy prog 4=some [.bool false]:=aL
theorem PC:cN prog 5=some 1:=aL
theorem tb5:kg prog 5=some 1:=aL
theorem UX:prog.underlying 5=some (.int .u8):=aL
theorem Vt:dy prog 5=some [.int .u8 0]:=aL
theorem Pv:cN prog 9=some 1:=aL
theorem tb9:kg prog 9=some 16:=aL
theorem Rb:prog.underlying 9=some (.string):=aL
theorem tz9:dy prog 9=some [.string ⟨#[]⟩]:=aL
theorem ab3:prog.underlying 25=some (.pointer 103):=aL
theorem alD:prog.underlying 29=some (.pointer 65):=aL
theorem amN:prog.underlying 30=some (.pointer 96):=aL
theorem al8:prog.underlying 31=some (.pointer 137):=aL
theorem aeV:cN prog 32=some 1:=aL
theorem Ki:prog.underlying 32=some (.slice 78):=aL
theorem af8:dy prog 32=some [.slice none 0 0]:=aL
theorem W9:prog.underlying 33=some (.slice 129):=aL
theorem amn:dy prog 35=some [.pointer none,.pointer none,.pointer none,.slice none 0 0,.slice none 0 0,.slice none 0 0,.bool false,.int .i64 0]:=aL
theorem aeF:aQ prog 35 0=some 0:=aL
theorem abM:aQ prog 35 1=some 1:=aL
theorem ac0:aQ prog 35 2=some 2:=aL
theorem adL:aQ prog 35 3=some 3:=aL
theorem abK:aQ prog 35 5=some 5:=aL
theorem aek:aQ prog 35 7=some 7:=aL
theorem am7:fieldsOf prog 35=some [(0,1),(1,1),(2,1),(3,1),(4,1),(5,1),(6,1),(7,1)]:=aL
theorem aiS:prog.underlying 38=some (.slice 107):=aL
theorem ans:cN prog 40=some 7:=aL
theorem aeL:aQ prog 40 0=some 0:=aL
theorem aeO:aQ prog 40 1=some 1:=aL
theorem aee:aQ prog 40 2=some 2:=aL
theorem ac3:aQ prog 40 3=some 3:=aL
theorem adb:aQ prog 40 4=some 4:=aL
theorem abT:aQ prog 40 6=some 6:=aL
theorem aj9:cN prog 42=some 10:=aL
theorem aef:aQ prog 42 0=some 0:=aL
theorem ad8:aQ prog 42 1=some 1:=aL
theorem acU:aQ prog 42 2=some 2:=aL
theorem acT:aQ prog 42 3=some 3:=aL
theorem aho:cN prog 45=some 1:=aL
theorem yv:prog.underlying 45=some (.slice 9):=aL
theorem ahF:dy prog 45=some [.slice none 0 0]:=aL
theorem vP:prog.underlying 46=some (.slice 5):=aL
theorem alo:dy prog 48=some [.int .i64 0,.int .i64 0,.slice none 0 0,.slice none 0 0]:=aL
theorem ace:aQ prog 48 0=some 0:=aL
theorem aco:aQ prog 48 1=some 1:=aL
theorem ac8:aQ prog 48 2=some 2:=aL
theorem abL:aQ prog 48 3=some 3:=aL
theorem alX:dy prog 50=some [.int .i64 0,.int .i64 0,.slice none 0 0,.slice none 0 0]:=aL
theorem acH:aQ prog 50 0=some 0:=aL
theorem adX:aQ prog 50 1=some 1:=aL
theorem abV:aQ prog 50 2=some 2:=aL
theorem adB:aQ prog 50 3=some 3:=aL
theorem adA:prog.underlying 51=some (.slice 40):=aL
theorem adq:prog.underlying 58=some (.slice 131):=aL
theorem akF:prog.underlying 62=some (.pointer 201):=aL
theorem ami:prog.underlying 63=some (.pointer 191):=aL
theorem ake:dy prog 65=some [.pointer none,.pointer none]:=aL
theorem ac7:aQ prog 65 0=some 0:=aL
theorem aeq:aQ prog 65 1=some 1:=aL
theorem aeG:prog.underlying 68=some (.slice 88):=aL
theorem acg:prog.underlying 70=some (.pointer 182):=aL
theorem afM:cN prog 71=some 1:=aL
theorem aiU:kg prog 71=some 8:=aL
theorem JY:prog.underlying 71=some (.int .u64):=aL
theorem aiI:dy prog 71=some [.int .u64 0]:=aL
theorem JJ:cN prog 78=some 1:=aL
theorem YT:kg prog 78=some 8:=aL
theorem akD:prog.underlying 78=some (.pointer 160):=aL
theorem Ts:dy prog 78=some [.pointer none]:=aL
theorem ak7:prog.underlying 82=some (.pointer 175):=aL
theorem abP:cN prog 88=some 2:=aL
theorem ah0:kg prog 88=some 32:=aL
theorem acF:dy prog 88=some [.string ⟨#[]⟩,.string ⟨#[]⟩]:=aL
theorem acJ:aQ prog 88 0=some 0:=aL
theorem ahp:mc prog 90=some (.nilFunc):=aL
theorem adD:prog.underlying 92=some (.map 5 90):=aL
theorem amA:prog.underlying 94=some (.slice 97):=aL
theorem amc:dy prog 96=some [.slice none 0 0,.int .i64 0,.int .i64 0,.bool false,.bool false]:=aL
theorem acf:aQ prog 96 0=some 0:=aL
theorem aep:aQ prog 96 3=some 3:=aL
theorem adI:aQ prog 96 4=some 4:=aL
theorem akR:fieldsOf prog 96=some [(0,1),(1,1),(2,1),(3,1),(4,1)]:=aL
theorem ZB:aQ prog 103 0=some 0:=aL
theorem Vm:aQ prog 103 2=some 2:=aL
theorem Yx:aQ prog 103 3=some 6:=aL
theorem XI:aQ prog 103 4=some 7:=aL
theorem Vb:aQ prog 103 5=some 8:=aL
theorem Uf:aQ prog 103 12=some 15:=aL
theorem ah9:cN prog 107=some 3:=aL
theorem Y6:aQ prog 107 0=some 0:=aL
theorem XP:aQ prog 107 1=some 1:=aL
theorem agB:prog.underlying 121=some (.pointer 157):=aL
theorem ae1:dy prog 125=some [.int .i64 0,.bool false,.string ⟨#[]⟩,.string ⟨#[]⟩]:=aL
theorem Xq:aQ prog 125 0=some 0:=aL
theorem Zq:aQ prog 125 1=some 1:=aL
theorem Ll:cN prog 129=some 13:=aL
theorem abe:kg prog 129=some 152:=aL
theorem afK:fieldsOf prog 129=some [(0,1),(1,1),(2,7),(9,4)]:=aL
theorem SO:cN prog 131=some 3:=aL
theorem abE:kg prog 131=some 48:=aL
theorem Q6:dy prog 131=some [.string ⟨#[]⟩,.slice none 0 0,.int .u8 0]:=aL
theorem UZ:aQ prog 131 0=some 0:=aL
theorem Zz:aQ prog 131 1=some 1:=aL
theorem Ye:aQ prog 131 2=some 2:=aL
theorem aa6:prog.underlying 134=some (.slice 71):=aL
theorem abo:prog.underlying 135=some (.slice 4):=aL
theorem ae7:dy prog 137=some [.slice none 0 0,.slice none 0 0,.int .i64 0]:=aL
theorem ZN:aQ prog 137 0=some 0:=aL
theorem Zb:aQ prog 137 1=some 1:=aL
theorem ZR:aQ prog 137 2=some 2:=aL
theorem QV:prog.underlying 138=some (.pointer 141):=aL
theorem QX:cN prog 141=some 2:=aL
theorem ah4:dy prog 141=some [.pointer none,.int .u64 0]:=aL
theorem Yc:aQ prog 141 0=some 0:=aL
theorem Xy:aQ prog 141 1=some 1:=aL
theorem aaY:prog.underlying 142=some (.slice 3):=aL
theorem Xb:aQ prog 155 2=some 0:=aL
theorem Xi:aQ prog 157 0=some 0:=aL
theorem ag1:dy prog 160=some [.string ⟨#[]⟩,.string ⟨#[]⟩,.bool false,.pointer none,.int .u64 0,.nilFunc,.int .i64 0,.int .i64 0]:=aL
theorem XC:aQ prog 160 0=some 0:=aL
theorem U6:aQ prog 160 1=some 1:=aL
theorem Xm:aQ prog 160 2=some 2:=aL
theorem WB:aQ prog 160 3=some 3:=aL
theorem Za:aQ prog 160 4=some 4:=aL
theorem ZA:aQ prog 160 5=some 5:=aL
theorem Zd:aQ prog 160 7=some 7:=aL
theorem ah5:fieldsOf prog 160=some [(0,1),(1,1),(2,1),(3,1),(4,1),(5,1),(6,1),(7,1)]:=aL
theorem VN:aQ prog 167 1=some 0:=aL
theorem abz:cN prog 169=some 2:=aL
theorem Xa:aQ prog 169 0=some 0:=aL
theorem aas:aQ prog 171 1=some 0:=aL
theorem Vy:aQ prog 173 1=some 0:=aL
theorem VM:aQ prog 173 2=some 1:=aL
theorem agi:dy prog 175=some [.nilIface,.int .u8 0,.int .u32 0,.int .i32 0,.int .u32 0,.bool false]:=aL
theorem Yb:aQ prog 175 0=some 0:=aL
theorem ZE:aQ prog 175 1=some 1:=aL
theorem WI:aQ prog 175 3=some 5:=aL
theorem agZ:fieldsOf prog 175=some [(0,1),(1,1),(2,3),(5,1)]:=aL
theorem aio:dy prog 182=some [.slice none 0 0,.slice none 0 0]:=aL
theorem Z6:aQ prog 182 0=some 0:=aL
theorem aau:aQ prog 182 1=some 1:=aL
theorem agd:dy prog 191=some [.map none,.slice none 0 0,.int .u64 0,.bool false]:=aL
theorem LS:prog.underlying 197=some (.unsafePointer):=aL
theorem YI:aQ prog 199 2=some 0:=aL
theorem afC:dy prog 201=some [.int .u32 0,.int .i32 0,.int .u32 0,.nilFunc,.pointer none]:=aL
theorem Xl:aQ prog 201 0=some 0:=aL
theorem XH:aQ prog 201 1=some 3:=aL
theorem Ym:aQ prog 201 2=some 4:=aL
theorem ahl:fieldsOf prog 201=some [(0,3),(3,1),(4,1)]:=aL
theorem aga:prog.underlying 212=some (.pointer 249):=aL
theorem ahI:prog.underlying 215=some (.pointer 258):=aL
theorem aj1:prog.underlying 218=some (.pointer 273):=aL
theorem aa5:prog.underlying 222=some (.slice 45):=aL
theorem abc:prog.underlying 224=some (.slice 32):=aL
theorem afT:prog.underlying 241=some (.pointer 289):=aL
theorem vB:prog.underlying 243=some (.slice 245):=aL
theorem pH:cN prog 245=some 2:=aL
theorem QL:kg prog 245=some 16:=aL
theorem AZ:dy prog 245=some [.int .i64 0,.int .u64 0]:=aL
theorem Yw:aQ prog 245 0=some 0:=aL
theorem Zv:aQ prog 245 1=some 1:=aL
theorem aiY:cN prog 247=some 8:=aL
theorem af5:dy prog 247=some [.bool false,.slice none 0 0,.slice none 0 0,.slice none 0 0,.string ⟨#[]⟩,.bool false,.int .i64 0,.int .u64 0]:=aL
theorem ZI:aQ prog 247 0=some 0:=aL
theorem Wx:aQ prog 247 1=some 1:=aL
theorem aaJ:aQ prog 247 2=some 2:=aL
theorem Wn:aQ prog 247 3=some 3:=aL
theorem Wp:aQ prog 247 4=some 4:=aL
theorem YV:aQ prog 247 5=some 5:=aL
theorem XT:aQ prog 247 6=some 6:=aL
theorem af0:fieldsOf prog 247=some [(0,1),(1,1),(2,1),(3,1),(4,1),(5,1),(6,2)]:=aL
theorem aia:dy prog 249=some [.pointer none,.pointer none,.int .i64 0,.int .u64 0,.int .i64 0,.bool false]:=aL
theorem X8:aQ prog 249 0=some 0:=aL
theorem aaa:aQ prog 249 1=some 1:=aL
theorem Xr:aQ prog 249 2=some 2:=aL
theorem VZ:aQ prog 249 3=some 4:=aL
theorem Ww:aQ prog 249 4=some 5:=aL
theorem agp:fieldsOf prog 249=some [(0,1),(1,1),(2,2),(4,1),(5,1)]:=aL
theorem aiD:prog.underlying 252=some (.pointer 297):=aL
theorem agV:prog.underlying 254=some (.pointer 307):=aL
theorem ag2:dy prog 256=some [.string ⟨#[]⟩,.string ⟨#[]⟩,.bool false,.pointer none]:=aL
theorem WW:aQ prog 256 0=some 0:=aL
theorem VH:aQ prog 256 1=some 1:=aL
theorem Xo:aQ prog 256 2=some 2:=aL
theorem Ys:aQ prog 256 3=some 3:=aL
theorem aiN:dy prog 258=some [.pointer none,.pointer none,.int .i64 0,.int .u64 0,.int .i64 0,.bool false]:=aL
theorem ZF:aQ prog 258 0=some 0:=aL
theorem aaK:aQ prog 258 1=some 1:=aL
theorem Xx:aQ prog 258 2=some 2:=aL
theorem Xk:aQ prog 258 3=some 4:=aL
theorem WY:aQ prog 258 4=some 5:=aL
theorem ae3:fieldsOf prog 258=some [(0,1),(1,1),(2,2),(4,1),(5,1)]:=aL
theorem ajD:prog.underlying 261=some (.pointer 310):=aL
theorem aiy:cN prog 264=some 2:=aL
theorem aiE:dy prog 264=some [.int .u64 0,.int .u8 0]:=aL
theorem U2:aQ prog 264 0=some 0:=aL
theorem WG:aQ prog 264 1=some 1:=aL
theorem agq:cN prog 266=some 7:=aL
theorem agF:dy prog 266=some [.int .u64 0,.int .u8 0,.string ⟨#[]⟩,.string ⟨#[]⟩,.bool false,.int .i64 0,.int .u64 0]:=aL
theorem aaz:aQ prog 266 0=some 0:=aL
theorem aan:aQ prog 266 1=some 2:=aL
theorem WK:aQ prog 266 2=some 3:=aL
theorem Vs:aQ prog 266 3=some 4:=aL
theorem Xs:aQ prog 266 4=some 5:=aL
theorem ajz:fieldsOf prog 266=some [(0,2),(2,1),(3,1),(4,1),(5,2)]:=aL
theorem afO:prog.underlying 267=some (.array 15 266):=aL
theorem agh:cN prog 269=some 111:=aL
theorem Wi:aQ prog 269 0=some 0:=aL
theorem Yu:aQ prog 269 1=some 1:=aL
theorem aah:aQ prog 269 2=some 106:=aL
theorem Z8:aQ prog 269 3=some 108:=aL
theorem aaT:aQ prog 269 4=some 109:=aL
theorem aij:fieldsOf prog 269=some [(0,1),(1,105),(106,2),(108,1),(109,2)]:=aL
theorem agL:cN prog 271=some 120:=aL
theorem aaL:aQ prog 271 0=some 0:=aL
theorem Yp:aQ prog 271 1=some 1:=aL
theorem WL:aQ prog 271 2=some 112:=aL
theorem aic:fieldsOf prog 271=some [(0,1),(1,111),(112,8)]:=aL
theorem afr:dy prog 273=some [.pointer none,.pointer none,.int .i64 0,.int .u64 0,.int .i64 0,.int .i64 0,.bool false]:=aL
theorem ZW:aQ prog 273 0=some 0:=aL
theorem Xg:aQ prog 273 1=some 1:=aL
theorem Vr:aQ prog 273 2=some 2:=aL
theorem VL:aQ prog 273 3=some 4:=aL
theorem Vf:aQ prog 273 4=some 5:=aL
theorem V9:aQ prog 273 5=some 6:=aL
theorem ae4:fieldsOf prog 273=some [(0,1),(1,1),(2,2),(4,1),(5,1),(6,1)]:=aL
theorem Tv:prog.underlying 286=some (.int .u64):=aL
theorem TZ:prog.underlying 287=some (.map 3 292):=aL
theorem YU:aQ prog 289 0=some 0:=aL
theorem W0:aQ prog 289 1=some 1:=aL
theorem abA:mc prog 292=some (.pointer none):=aL
theorem agJ:dy prog 294=some [.int .u64 0,.bool false,.slice none 0 0,.slice none 0 0,.slice none 0 0,.string ⟨#[]⟩,.bool false,.int .i64 0,.int .u64 0]:=aL
theorem YC:aQ prog 294 0=some 0:=aL
theorem WZ:aQ prog 294 1=some 1:=aL
theorem ahD:fieldsOf prog 294=some [(0,1),(1,8)]:=aL
theorem Li:prog.underlying 295=some (.map 3 298):=aL
theorem XM:aQ prog 297 0=some 0:=aL
theorem XY:aQ prog 297 1=some 1:=aL
theorem aa0:mc prog 298=some (.pointer none):=aL
theorem afL:dy prog 300=some [.int .u64 0,.string ⟨#[]⟩,.string ⟨#[]⟩,.bool false,.pointer none]:=aL
theorem Xc:aQ prog 300 0=some 0:=aL
theorem YF:aQ prog 300 1=some 1:=aL
theorem ajL:fieldsOf prog 300=some [(0,1),(1,4)]:=aL
theorem QK:mc prog 301=some (.pointer none):=aL
theorem agv:dy prog 303=some [.slice none 0 0,.slice none 0 0]:=aL
theorem W5:aQ prog 303 0=some 0:=aL
theorem ZP:aQ prog 303 1=some 1:=aL
theorem aiQ:dy prog 305=some [.nilIface]:=aL
theorem aiP:dy prog 307=some [.nilIface,.int .i64 0,.int .i64 0]:=aL
theorem Zh:aQ prog 307 0=some 0:=aL
theorem Xz:aQ prog 307 1=some 1:=aL
theorem Zu:aQ prog 307 2=some 2:=aL
theorem QO:prog.underlying 308=some (.map 3 332):=aL
theorem Xf:aQ prog 310 0=some 0:=aL
theorem Wc:aQ prog 310 1=some 1:=aL
theorem aaZ:mc prog 332=some (.pointer none):=aL
theorem VT:aQ prog 334 0=some 0:=aL
theorem Wg:aQ prog 334 1=some 1:=aL
theorem aip:fieldsOf prog 334=some [(0,1),(1,120)]:=aL
theorem abd:prog.underlying 336=some (.pointer 169):=aL
def cb(m t:Nat):Bool:=Nat.ble (t+1) 512&&Nat.beq (Nat.land (Nat.shiftRight m t) 1) 1
theorem cls{f:Nat->α}{r:α}{m:Nat}(h:((List.range 512).filter (cb m)).map f=((List.range 512).filter (cb m)).map λ_=>r){t:Nat}(ht:cb m t=true):f t=r:=by
 have hl:t<512:=by unfold cb at ht;rw[aV]at ht;exact Nat.le_of_ble_eq_true ht.1
 exact List.map_inj_left.1 h t (gP.2 ⟨eX.2 hl,ht⟩)
theorem ty_1(h:cb 0x10000000000000000000000012008080000020500a00000080000008000008400000c000000000400440d0c0006043e420023a t=true):yg prog t=some false:=cls (f:=λt=>yg prog t) aL h
theorem ty_2(h:cb 0x10000000000000000000000012008080000020500a00000080000008000008400000c000000000400440d0c0006043e420023a t=true):cN prog t=some 1:=cls (f:=λt=>cN prog t) aL h
theorem ty_3(h:cb 0x8000000000000000000000000000000000000000000100000600100000000 t=true):dy prog t=some [.slice none 0 0]:=cls (f:=λt=>dy prog t) aL h
theorem ty_4(h:cb 0x2000000000200000010400000000000000000004000004892420002a50502a0000000000200804080010000220a20000081010000020005000800000000 t=true):vp prog t=true:=cls (f:=λt=>vp prog t) aL h
theorem ty_5(h:cb 0x2000000000200000000400000000000000000000000000000000000a50100a0000000000000000000000000000820000000000000000005050000000000 t=true):yg prog t=some true:=cls (f:=λt=>yg prog t) aL h
theorem ty_6(h:cb 0x10000000000000000000000000000000020000000000000000005000000000000 t=true):cN prog t=some 4:=cls (f:=λt=>cN prog t) aL h
theorem ty_7(h:cb 0x10000000000000000800000000000000020000000000000000005000000000000 t=true):fieldsOf prog t=some [(0,1),(1,1),(2,1),(3,1)]:=cls (f:=λt=>fieldsOf prog t) aL h
theorem ty_8(h:cb 0x408202000001000020000000000000004000000000200000000000010000020000000000000000 t=true):fieldsOf prog t=some [(0,1),(1,1)]:=cls (f:=λt=>fieldsOf prog t) aL h
theorem ty_9(h:cb 0x1000000000000000000000000000080000000000000000000000000000000000000000020800000000000000000000000000000000 t=true):fieldsOf prog t=some [(0,1),(1,1),(2,1)]:=cls (f:=λt=>fieldsOf prog t) aL h
theorem ty_10(h:cb 0x400202000000000000000000000000000000000000000000000000000000000000000000000000 t=true):dy prog t=some [.pointer none,.map none]:=cls (f:=λt=>dy prog t) aL h
attribute[go_sem] tb1 tv1 tv2 ts3 Da tz3 ts4 tb4 tu4 tz4 PC tb5 UX Vt Pv tb9 Rb tz9 ab3 alD amN al8 aeV Ki af8 W9 amn aeF abM ac0 adL abK aek am7 aiS ans aeL aeO aee ac3 adb abT aj9 aef ad8 acU acT aho yv ahF vP alo ace aco ac8 abL alX acH adX abV adB adA adq akF ami ake ac7 aeq aeG acg afM aiU JY aiI JJ YT akD Ts ak7 abP ah0 acF acJ ahp adD amA amc acf aep adI akR ZB Vm Yx XI Vb Uf ah9 Y6 XP agB ae1 Xq Zq Ll abe afK SO abE Q6 UZ Zz Ye aa6 abo ae7 ZN Zb ZR QV QX ah4 Yc Xy aaY Xb Xi ag1 XC U6 Xm WB Za ZA Zd ah5 VN abz Xa aas Vy VM agi Yb ZE WI agZ aio Z6 aau agd LS YI afC Xl XH Ym ahl aga ahI aj1 aa5 abc afT vB pH QL AZ Yw Zv aiY af5 ZI Wx aaJ Wn Wp YV XT af0 aia X8 aaa Xr VZ Ww agp aiD agV ag2 WW VH Xo Ys aiN ZF aaK Xx Xk WY ae3 ajD aiy aiE U2 WG agq agF aaz aan WK Vs Xs ajz afO agh Wi Yu aah Z8 aaT aij agL aaL Yp WL aic afr ZW Xg Vr VL Vf V9 ae4 Tv TZ YU W0 abA agJ YC WZ ahD Li XM XY aa0 afL Xc YF ajL QK agv W5 ZP aiQ aiP Zh Xz Zu QO Xf Wc aaZ VT Wg aip abd ty_1 ty_2 ty_3 ty_4 ty_5 ty_6 ty_7 ty_8 ty_9 ty_10
variable{P:Program}{args:List AV}{f:FuncId}{h:aG}
def GG(P:Program)(xt:FuncId->Option Ext)(f:FuncId):Bool:=match xt f with|none=>(match P.funcs[f]? with|some fn=>fn.body.isSome|none=>false)|some _=>false
theorem wW{xt:FuncId->Option Ext}(hb:GG P xt f=true):fk P xt h f args=some (.enter f args):=by
 unfold GG at hb;unfold fk;split at hb
 .rename_i hx;simp only[hx];split at hb
  .rename_i fn hf;simp only[hf];cases hbo:fn.body with
   |none=>rw[hbo]at hb;cases hb
   |some c=>rfl
  .cases hb
 .cases hb
theorem fL{xt:FuncId->Option Ext}{e:Ext}(hx:xt f=some e):fk P xt h f args=dt h e args:=by unfold fk;simp only[hx]
theorem afa:fk prog xt h 121 args=dt h .store args:=fL aL
theorem afA:fk prog xt h 122 args=dt h (.load .ptr) args:=fL aL
theorem ahw:fk prog xt h 126 args=dt h (.load (.int .u64)) args:=fL aL
theorem afQ:fk prog xt h 135 args=dt h (.cas (.int .u64)) args:=fL aL
theorem ai3:fk prog xt h 138 args=dt h (.load (.int .u32)) args:=fL aL
theorem ai8:fk prog xt h 145 args=dt h .cmp args:=fL aL
theorem afU:fk prog xt h 156 args=dt h .store args:=fL aL
theorem aiW:fk prog xt h 172 args=dt h .mark0 args:=fL aL
theorem ajk:fk prog xt h 173 args=dt h (.cas (.int .i32)) args:=fL aL
theorem aht:fk prog xt h 174 args=dt h .mark0 args:=fL aL
theorem ahC:fk prog xt h 175 args=dt h .mark1 args:=fL aL
theorem ai6:fk prog xt h 177 args=dt h .mark1 args:=fL aL
theorem afw:fk prog xt h 178 args=dt h (.add .i32) args:=fL aL
theorem agM:fk prog xt h 255 args=dt h (.Mq 45) args:=fL aL
theorem agm:fk prog xt h 259 args=dt h (.Mq 243) args:=fL aL
theorem aiF:fk prog xt h 372 args=dt h (.Mq 46) args:=fL aL
def okF(f:Nat):Bool:=decide (f<388)&& !([0,1,2,121,122,126,135,138,145,156,172,173,174,175,177,178,187,188,189,190,191,192,193,195,196,197,198,199,200,201,202,203,204,205,206,207,208,209,211,212,213,214,217,218,219,223,225,226,255,259,267,269,270,301,303,359,360,361,372,377,378,387]:List Nat).contains f
theorem aen:(List.range 388).all (λf=>GG prog xt f|| !okF f)=true:=aL
theorem bo_(h:okF f=true):GG prog xt f=true:=by
 have hl:f<388:=by unfold okF at h;rw[aV]at h;exact dM h.1
 have:=eY.1 aen f (eX.2 hl);rw[h,fj,Bool.or_false]at this;exact this
attribute[go_sem] bo_ wW afa afA ahw afQ ai3 ai8 afU aiW ajk aht ahC ai6 afw agM agm aiF
variable{E:jm}{a:AV}{i:Nat}{ops:Array Oper}{s:BT AV}
abbrev ba:=List UInt8
abbrev u64(n:Int):AV:= .g (.int .u64 n)
abbrev u8(n:Int):AV:= .g (.int .u8 n)
abbrev Fw:AV:= .g (.pointer none)
theorem Oh:ey [] 0 .nil= .nil:=bF rfl
theorem NN:ey [a] 0 .nil=(sset .nil 0 a):=bF rfl
theorem OI{b:AV}:ey [a,b] 0 .nil=(sset (sset .nil 0 a) 1 b):=bF rfl
theorem Pg{b c:AV}:ey [a,b,c] 0 .nil=(sset (sset (sset .nil 0 a) 1 b) 2 c):=bF rfl
theorem NK{b c d:AV}:ey [a,b,c,d] 0 .nil=(sset (sset (sset (sset .nil 0 a) 1 b) 2 c) 3 d):=bF rfl
theorem NA{b c d e:AV}:ey [a,b,c,d,e] 0 .nil=(sset (sset (sset (sset (sset .nil 0 a) 1 b) 2 c) 3 d) 4 e):=bF rfl
theorem Ph{b c d e f:AV}:ey [a,b,c,d,e,f] 0 .nil=(sset (sset (sset (sset (sset (sset .nil 0 a) 1 b) 2 c) 3 d) 4 e) 5 f):=bF rfl
theorem VD{ev:Operand->AV}{d ty po af g}{x}:dE P h ev ⟨d,.move x,ty,po,af,g⟩=some (.val (ev x)):=bF rfl
theorem Wb{x}:ct (.move x)=false:=bF rfl
theorem aaH{ev:Operand->AV}{d ty po af g}{c a b}:dE P h ev ⟨d,.pick c a b,ty,po,af,g⟩=DP (ev c) (ev a) (ev b):=bF rfl
theorem YZ{c a b}:ct (.pick c a b)=false:=bF rfl
theorem V8{ev:Operand->AV}{d ty po af g}{t a}:dE P h ev ⟨d,.load t a,ty,po,af,g⟩=qv (vD P h t (ev a)):=bF rfl
theorem aat{t a}:ct (.load t a)=false:=bF rfl
theorem GY{ev:Operand->AV}{d ty po af g}{x}:dE P h ev ⟨d,.nilCheck x,ty,po,af,g⟩=Ob (ev x):=bF rfl
theorem Iu{x}:ct (.nilCheck x)=false:=bF rfl
theorem FT{ev:Operand->AV}{d ty po af g}{s x f}:dE P h ev ⟨d,.fieldAddr s x f,ty,po,af,g⟩=yK P s f (ev x):=bF rfl
theorem F4{s x f}:ct (.fieldAddr s x f)=false:=bF rfl
theorem So{ev:Operand->AV}{d ty po af g}{op t x y u}:dE P h ev ⟨d,.binOp op t x y u,ty,po,af,g⟩=qv (cZ P h op t x y (ev x) (ev y)):=bF rfl
theorem Sh{op t x y u}:ct (.binOp op t x y u)=false:=bF rfl
theorem Jl{ev:Operand->AV}{d ty po af g}{x i}:dE P h ev ⟨d,.extract x i,ty,po,af,g⟩=Nw i (ev x):=bF rfl
theorem Jy{x i}:ct (.extract x i)=false:=bF rfl
theorem Fa{ev:Operand->AV}{d ty po af g}{t x i}:dE P h ev ⟨d,.indexAddr t x i,ty,po,af,g⟩=Jt P t (ev x) (ev i):=bF rfl
theorem EV{t x i}:ct (.indexAddr t x i)=false:=bF rfl
theorem XN{ev:Operand->AV}{d ty po af g}{op t x}:dE P h ev ⟨d,.unOp op t x,ty,po,af,g⟩=qUn P op (ev x):=bF rfl
theorem VW{op t x}:ct (.unOp op t x)=false:=bF rfl
theorem J7{ev:Operand->AV}{d ty po af g}{s1 d1 x}:dE P h ev ⟨d,.convert s1 d1 x,ty,po,af,g⟩=qv (nD P h s1 d1 (ev x)):=bF rfl
theorem Kf{s1 d1 x}:ct (.convert s1 d1 x)=false:=bF rfl
theorem TG{ev:Operand->AV}{d ty po af g}{t x i}:dE P h ev ⟨d,.index t x i,ty,po,af,g⟩=rH P t (ev x) (ev i):=bF rfl
theorem RG{t x i}:ct (.index t x i)=false:=bF rfl
theorem TH{ev:Operand->AV}{d ty po af g}{t x lo hi mx}:dE P h ev ⟨d,.slice t x lo hi mx,ty,po,af,g⟩=yl P t (ev x) (lo.map ev) (hi.map ev) (mx.map ev):=bF rfl
theorem Qc{t x lo hi mx}:ct (.slice t x lo hi mx)=false:=bF rfl
theorem CO{ev:Operand->AV}{d ty po af g}{x u t ok}:dE P h ev ⟨d,.typeAssert x u t ok,ty,po,af,g⟩=jF P (ev x) t ok:=bF rfl
theorem CV{x u t ok}:ct (.typeAssert x u t ok)=false:=bF rfl
theorem yx{ev:Operand->AV}{d ty po af g}{t x}:dE P h ev ⟨d,.makeInterface t x,ty,po,af,g⟩=kX P t (ev x):=bF rfl
theorem y7{t x}:ct (.makeInterface t x)=false:=bF rfl
theorem Hw{ev:Operand->AV}{d ty po af g}{fn fi ca}:dE P h ev ⟨d,.makeFunc fn fi ca,ty,po,af,g⟩=qFn fn fi ca ev:=bF rfl
theorem HX{fn fi ca}:ct (.makeFunc fn fi ca)=false:=bF rfl
theorem MX{ev:Operand->AV}{d ty po af g}{t x i ok}:dE P h ev ⟨d,.lookup t x i ok,ty,po,af,g⟩=qv (my P h t (ev x) (ev i) ok):=bF rfl
theorem TE{ev:Operand->AV}{d ty po af g}{e}:dE P h ev ⟨d,.alloc e,ty,po,af,g⟩=yW P e:=bF rfl
theorem QQ{e}:ct (.alloc e)=false:=bF rfl
theorem adx{ev:Operand->AV}{d ty po af g}{e x}:dE P h ev ⟨d,.box e x,ty,po,af,g⟩=Uq e (ev x):=bF rfl
theorem acu{e x}:ct (.box e x)=false:=bF rfl
theorem R0{ev:Operand->AV}{d ty po af g}{t ps}:dE P h ev ⟨d,.build t ps,ty,po,af,g⟩=uo P ev t ps.toList:=bF rfl
theorem RA{t ps}:ct (.build t ps)=false:=bF rfl
theorem CP{ev:Operand->AV}{d ty po af g}{t l ps}:dE P h ev ⟨d,.buildSlice t l ps,ty,po,af,g⟩=fy P ev t l ps.toList:=bF rfl
theorem CK{t l ps}:ct (.buildSlice t l ps)=false:=bF rfl
theorem KD{ev:Operand->AV}{d ty po af g}{t r}:dE P h ev ⟨d,.makeMap t r,ty,po,af,g⟩=SM P t (r.map ev):=bF rfl
theorem Kr{t r}:ct (.makeMap t r)=false:=bF rfl
theorem Gb{ev:Operand->AV}{d ty po af g}{t l c}:dE P h ev ⟨d,.makeSlice t l c,ty,po,af,g⟩=qp P t (ev l) (ev c):=bF rfl
theorem Ft{t l c}:ct (.makeSlice t l c)=false:=bF rfl
theorem XV{ev:Operand->AV}{d ty po af g}{c}:dE P h ev ⟨d,.call c,ty,po,af,g⟩=tO P h ev c:=bF rfl
theorem NU{xt:FuncId->Option Ext}{ev:Operand->AV}{d ty po af g}{x}:nE P xt h ev ⟨d,.assign x,ty,po,af,g⟩=some (.val (ev x) h):=bF rfl
theorem MV{x}:ct (.assign x)=true:=bF rfl
theorem Q2{xt:FuncId->Option Ext}{ev:Operand->AV}{d ty po af g}{t a x}:nE P xt h ev ⟨d,.store t a x,ty,po,af,g⟩=uq P h t (ev a) (ev x):=bF rfl
theorem SU{t a x}:ct (.store t a x)=true:=bF rfl
theorem Fy{xt:FuncId->Option Ext}{ev:Operand->AV}{d ty po af g}{t m k x}:nE P xt h ev ⟨d,.mapUpdate t m k x,ty,po,af,g⟩=kR (qA P h t (ev m) (ev k) (ev x)):=bF rfl
theorem Na{xt:FuncId->Option Ext}{ev:Operand->AV}{d ty po af g}{t m k x}:nE P xt h ev ⟨d,.insert t m k x,ty,po,af,g⟩=kR (qA P h t (ev m) (ev k) (ev x)):=bF rfl
theorem OG{t m k x}:ct (.insert t m k x)=true:=bF rfl
theorem Vd{xt:FuncId->Option Ext}{ev:Operand->AV}{d ty po af g}{c}:nE P xt h ev ⟨d,.call c,ty,po,af,g⟩=tp P xt h ev c:=bF rfl
theorem P9{f ar ty}:ct (.call ⟨.value f,ar,ty⟩)=true:=bF rfl
theorem RW{r n ar ty}:ct (.call ⟨.invoke r n,ar,ty⟩)=true:=bF rfl
theorem Ic{ar ty}:ct (.call ⟨.builtin .len,ar,ty⟩)=false:=bF rfl
theorem Hb{ar ty}:ct (.call ⟨.builtin .cap,ar,ty⟩)=false:=bF rfl
theorem HW{ar ty}:ct (.call ⟨.builtin .min,ar,ty⟩)=false:=bF rfl
theorem Ho{ar ty}:ct (.call ⟨.builtin .max,ar,ty⟩)=false:=bF rfl
theorem Bd{ar ty}:ct (.call ⟨.builtin .append,ar,ty⟩)=true:=bF rfl
theorem E1{ar ty}:ct (.call ⟨.builtin .copy,ar,ty⟩)=true:=bF rfl
theorem CF{ar ty}:ct (.call ⟨.builtin .clear,ar,ty⟩)=true:=bF rfl
theorem Tm{xt:FuncId->Option Ext}{ev:Operand->AV}{f ar ty}:tp P xt h ev ⟨.value f,ar,ty⟩=ou P xt h (ev f) (ar.toList.map ev):=bF rfl
theorem NO{xt:FuncId->Option Ext}{ev:Operand->AV}{r n ar ty}:tp P xt h ev ⟨.invoke r n,ar,ty⟩=nO P xt h n (ar.toList.map ev) (ev r):=bF rfl
theorem On{xt:FuncId->Option Ext}{ev:Operand->AV}{a b ty}:tp P xt h ev ⟨.builtin .append,#[a,b],ty⟩=gj P h ty (ev a) (ev b):=bF rfl
theorem XO{xt:FuncId->Option Ext}{ev:Operand->AV}{a b ty}:tp P xt h ev ⟨.builtin .copy,#[a,b],ty⟩=qK P h ty (ev a) (ev b):=bF rfl
theorem Sv{xt:FuncId->Option Ext}{ev:Operand->AV}{a ty}:tp P xt h ev ⟨.builtin .clear,#[a],ty⟩=qi P h ty (ev a):=bF rfl
theorem Ov{xt:FuncId->Option Ext}{ev:Operand->AV}{a b ty}:tp P xt h ev ⟨.builtin .delete,#[a,b],ty⟩=uX P h ty (ev a) (ev b):=bF rfl
theorem adR{ev:Operand->AV}{a t}:tO P h ev ⟨.builtin .len,#[a],#[t]⟩=qv (MK P t h (ev a)):=bF rfl
theorem aei{ev:Operand->AV}{a b ty}:tO P h ev ⟨.builtin .min,#[a,b],ty⟩=TN P (ev a) (ev b):=bF rfl
theorem acD{ev:Operand->AV}{a b ty}:tO P h ev ⟨.builtin .max,#[a,b],ty⟩=O1 P (ev a) (ev b):=bF rfl
theorem aad{t}:oZ s (.tmp t)=ao s t:=bF rfl
theorem Od{v}:oZ s (.const v)= .g v:=bF rfl
theorem Rk{f}:oZ s (.func f)= .fn f []:=bF rfl
theorem aie{xt:FuncId->Option Ext}{f cap args}:ou P xt h (.fn f cap) args=fk P xt h f (args++cap):=bF rfl
theorem Nf{d v}:fT (some d) s v=sset s d v:=bF rfl
theorem Ou{v}:fT none s v=s:=bF rfl
theorem aaP{v:AV}:qv (some v)=some (.val v):=bF rfl
theorem aal{d op ty po af}:dO ops s ⟨d,op,ty,po,af,none⟩=some true:=bF rfl
def AWv(v:AV)(want:Bool):Option Bool:=match v with
 | .g (.bool b)=>some (b==want)
 | .g (.tuple _)=>some false
 |_=>none
def AWo(o:Option Oper)(s:BT AV)(want:Bool):Option Bool:=match o with
 |some ⟨some d,_,_,_,_,_⟩=>AWv (ao s d) want
 |_=>none
theorem XR{d op ty po af j want}:dO ops s ⟨d,op,ty,po,af,some (j,want)⟩=AWo ops[j]? s want:=by
 unfold dO AWo AWv;dsimp only;cases ops[j]? with
 |none=>rfl
 |some o=>obtain⟨d,_,_,_,_,_⟩:=o;cases d<;>rfl
theorem Tw{d op ty po af g want}:AWo (some ⟨some d,op,ty,po,af,g⟩) s want=AWv (ao s d) want:=bF rfl
theorem Nl{want}:AWv (.g undef) want=some false:=bF rfl
theorem OF{K:BT AV->aG->Nat->Prop}{s h nx}:jm.seq K E .iA s h nx=K s h nx:=bF rfl
theorem QA{K:BT AV->aG->Nat->Prop}{s h nx}:jm.seq K E .ret s h nx=E .ret s h nx:=bF rfl
theorem TJ{K:BT AV->aG->Nat->Prop}{id s h nx}:jm.seq K E (.out id) s h nx=E (.out id) s h nx:=bF rfl
theorem Rl{id:Nat}{s h nx}:jm.bJ id E .iA s h nx=E .iA s h nx:=bF rfl
theorem VO{id:Nat}{s h nx}:jm.bJ id E .ret s h nx=E .ret s h nx:=bF rfl
theorem Yl{id zQ:Nat}{s h nx}:jm.bJ id E (.out zQ) s h nx=if id=zQ then E .iA s h nx else E (.out zQ) s h nx:=bF rfl
theorem Yo{l:List α}:(List.toArray l)[i]?=l[i]?:=bL
theorem SE{a:α}{l:List α}:(a::l)[0]?=some a:=bF rfl
theorem P3{a:α}{l:List α}:(a::l)[i+1]?=l[i]?:=bF rfl
attribute[go_sem↓] ahM ab9 agw abX WV aeo Un aae Sk OK U1 aal XR Yo SE P3 Uu Nu RP W6
attribute[go_sem] VD Wb aaH YZ V8 aat GY Iu FT F4 So Sh Jl Jy Fa EV XN VW J7 Kf TG RG TH Qc CO CV yx y7 Hw HX MX TE QQ adx acu R0 RA CP CK KD Kr Gb Ft XV NU MV Q2 SU Fy Na OG Vd P9 RW Ic Hb HW Ho Bd E1 CF Tm NO On XO Sv Ov adR aei acD aad Od Rk aie Nf Ou aaP Tw Nl OF QA TJ Rl VO Yl
attribute[go_sem] KO H8 GW Er Jf G7 adO VY XG WN acE FO R7 oq Oh NN OI Pg NK NA Ph eo dQ oQ cz cC cD Cg eK jY ch
 Ob yK Nw Uq aj QR.av AO.cells?
 RV OU acR V6 Vu VI Uc OV
variable{Q:AV->aG->Nat->Prop}{b k nx:Nat}{rs:List ResultVar}{vs:List AV}{β:Type}
section
variable{P:Program}
theorem bX(f:α->Sem β)(s:Sem α):br P (s>>=f)=match br P s with|some a=>br P (f a)|none=>none:=by
 show br P (Sem.bind s f)=_
 induction s with
 |pure a=>rfl
 |program k ih=>simp only[Sem.bind,br];exact ih P
 |mark m k ih=>simp only[Sem.bind,br];exact ih
 |_=>rfl
theorem cG(a:α):br P (pure a:Sem α)=some a:=bF rfl
theorem gI{d:TypeDesc}(hu:P.underlying t=some d):br P (underlying t)=some d:=by show br P (match P.underlying t with|some d=>pure d|none=>_)=_;rw[hu];rfl
theorem wrap_i64{n:Int}(h1: -9223372036854775808<=n)(h2:n<9223372036854775808):cF .i64 n=n:=by unfold cF PM;simp[h1,h2]
theorem lg{n:Int}(h1:0<=n)(h2:n<18446744073709551616):cF .u64 n=n:=by rw[gT];unfold IntKind.wrap;show(if(false&&_)=true then _ else n%(2^64:Int))=n;simp only[oc];show n%18446744073709551616=n;omega
theorem wrap_u8{n:Int}(h1:0<=n)(h2:n<256):cF .u8 n=n:=by rw[gT];unfold IntKind.wrap;show(if(false&&_)=true then _ else n%(2^8:Int))=n;simp only[oc];show n%256=n;omega
theorem wrap_add{a:Nat}(h:a+b<9223372036854775808):cF .i64 ((a:Int)+(b:Int))=((a+b:Nat):Int):=by rw[wrap_i64]<;>omega
theorem OA{a:Nat}(h:a+1<9223372036854775808):cF .i64 ((a:Int)+1)=((a+1:Nat):Int):=by rw[wrap_i64]<;>omega
theorem PO{a:Nat}(h:b<=a)(h':a<9223372036854775808):cF .i64 ((a:Int)-(b:Int))=((a-b:Nat):Int):=by rw[wrap_i64]<;>omega
theorem O8{a:Nat}(h:1<=a)(h':a<9223372036854775808):cF .i64 ((a:Int)-1)=((a-1:Nat):Int):=by rw[wrap_i64]<;>omega
theorem qu{len:Nat}(h:k<len):nj len (k:Int)=some k:=by show(if k<len then some k else none)=_;rw[aw h]
theorem fX{hi:Nat}(h:k<=hi):ma (k:Int) hi=some k:=by show(if k<=hi then some k else none)=_;rw[aw h]
theorem PU(h:aG)(a b:ba):dt h .cmp [bR a,bR b]=some (.val (int (vv a b)) h):=by show some (ER.val (.g (goInt (Extern.BytealgCompare.cmp ⟨a.toArray⟩ ⟨b.toArray⟩))) h)=_;rw[YK]
theorem We(l:ba):(bR l).pd=some (.string ⟨l.toArray⟩):=bF rfl
theorem Dz(hu:P.underlying t=some .string){l:ba}(h:k<l.length):rH P t (bR l) (int k)=some (.val (u8 ((l.getD k 0).toNat:Nat))):=by
 unfold rH;simp only[We,AV.pd];have hg:(ByteArray.mk l.toArray)[k]?=some (l.getD k 0):=by
  have:(ByteArray.mk l.toArray)[k]?=(l.toArray)[k]?:=by simp only[getElem?_def];rfl
  rw[this];simp[aF h,List.getD]
 have:br P (Instr.index t (.string ⟨l.toArray⟩) (.int .i64 k))=some (.int .u8 ((l.getD k 0).toNat:Nat)):=by unfold Instr.index;simp only[asIntOf,bX,cG,gI hu];rw[aw ah];simp only[mZ,hg,cG]
 rw[this]
theorem adj{b:Bool}:qUn P .not (bQ b)=some (.val (bQ !b)):=bF rfl
theorem X'{k:IntKind}{m n:Int}:TN P (.g (.int k m)) (.g (.int k n))=some (.val (.g (.int k (if n<m then n else m)))):=bF rfl
theorem Wy{k:IntKind}{m n:Int}:O1 P (.g (.int k m)) (.g (.int k n))=(match br P (Builtin.max2 (.int k m) (.int k n))with|some r=>some (.val (.g r))|none=>none):=bF rfl
theorem G9(l:ba)(a b:Nat):(ByteArray.mk l.toArray).extract a b=⟨((l.drop a).take (b-a)).toArray⟩:=by
 have:((ByteArray.mk l.toArray).extract a b).data=l.toArray.extract a b:=by simp[ByteArray.data_extract]
 apply ByteArray.ext;rw[this];simp[List.extract]
theorem HM{y:Nat}{c:BoundsCode}(h:k<=y):br P (Instr.sliceBound (.int .i64 k) y c)=some k:=by unfold Instr.sliceBound;simp only[asIntOf,bX,cG];rw[aw ah];simp[cG]
theorem M'{sl:Bool}{len a:Nat}{lo hi:Option Value}(ha:lo=none/\a=0\/lo=some (.int .i64 a))(hb:hi=none/\b=len\/hi=some (.int .i64 b))(h1:a<=b)(h2:b<=len):
 br P (Instr.sliceBounds sl len len lo hi none)=some (a,b,len):=by
 rcases ha with⟨rfl,rfl⟩|rfl<;>rcases hb with⟨rfl,rfl⟩|rfl<;>unfold Instr.sliceBounds<;>simp only[bX,cG,HM h1,HM h2]
theorem yY(hu:P.underlying t=some .string){l:ba}{lo hi:Option AV}{a:Nat}(ha:lo=none/\a=0\/lo=some (int a))(hb:hi=none/\b=l.length\/hi=some (int b))(h1:a<=b)(h2:b<=l.length):
 eS P t (bR l) lo hi=some (bR ((l.drop a).take (b-a))):=by
 show slG P t (.string ⟨l.toArray⟩) lo hi=_;have hs:(ByteArray.mk l.toArray).size=l.length:=by simp[ByteArray.size]
 have key:∀lo hi:Option Value,(lo=none/\a=0\/lo=some (.int .i64 a))->(hi=none/\b=l.length\/hi=some (.int .i64 b))->
  br P (Instr.sliceAt t (.string ⟨l.toArray⟩) lo hi none)=some (.string ⟨((l.drop a).take (b-a)).toArray⟩):=by
  intro lo hi ha hb;unfold Instr.sliceAt Instr.slice;simp only[bX,gI hu,hs,mA,dk,cC,M' ha hb h1 h2,cG,G9]
 unfold slG;rcases ha with⟨rfl,rfl⟩|rfl<;>rcases hb with⟨rfl,rfl⟩|rfl<;>simp only[PV,AV.pd]
 .rw[key none none (.inl ⟨rfl,rfl⟩) (.inl ⟨rfl,rfl⟩)];rfl
 .rw[key none _ (.inl ⟨rfl,rfl⟩) (.inr rfl)];rfl
 .rw[key _ none (.inr rfl) (.inl ⟨rfl,rfl⟩)];rfl
 .rw[key _ _ (.inr rfl) (.inr rfl)];rfl
def Rj(r:Option (List AV))(Q:AV->aG->Nat->Prop)(h:aG)(nx:Nat)(_:Kp Q):Prop:=match r with|some vs=>Q (one vs) h nx|none=>False
theorem Nj{k}:Rj (some vs) Q h nx k=Q (one vs) h nx:=bF rfl
theorem VE:Fin P rs Q .ret s h nx=Rj (eo P h s rs) Q h nx .mk:=by unfold Fin Rj;cases eo P h s rs<;>simp
theorem R3:Fin P rs Q .iA s h nx=Rj (eo P h s rs) Q h nx .mk:=by unfold Fin Rj;cases eo P h s rs<;>simp
theorem Y4{v:AV}:one [v]=v:=bF rfl
theorem Wj{u v:AV}:one [u,v]= .dN [u,v]:=bF rfl
theorem MO{u v w:AV}:one [u,v,w]= .dN [u,v,w]:=bF rfl
theorem Rw{u v w x:AV}:one [u,v,w,x]= .dN [u,v,w,x]:=bF rfl
theorem Si:one []= .dN []:=bF rfl
attribute[go_sem] VE R3 Nj Y4 Wj MO Rw Si
attribute[go_sem] wrap_add OA PO O8 qu fX PU Dz adj X' yY aaU WT Zy YQ ts DP yl
end
variable{n:Nat}
theorem eF{α:Type}:∀(n:Nat) (l:List α),n<=l.length->ed n l=some (l.drop n)
 |0,_,_=>rfl
 |n+1,[],h=>by simp at h
 |n+1,_::l,h=>by show ed n l=_;rw[eF n l (by simpa using h)];rfl
theorem bO{α:Type}:∀(n:Nat) (l:List α),n<=l.length->de n l=some (l.take n)
 |0,_,_=>by simp;rfl
 |n+1,[],h=>by simp at h
 |n+1,a::l,h=>by show Option.rec (motive:=λ_=>Option (List α)) none (λr=>some (a::r)) (de n l)=_;rw[bO n l (by simpa using h)];rfl
theorem cp{α:Type}:∀(n:Nat) (l vs:List α),n+vs.length<=l.length->dJ n l vs=some (l.take n++vs++l.drop (n+vs.length))
 |0,[],[],_=>rfl
 |0,_::_,[],_=>by simp;rfl
 |0,[],_::_,h=>by simp at h
 |0,a::l,v::vs,h=>by show Option.rec (motive:=λ_=>Option (List α)) none (λr=>some (v::r)) (dJ 0 l vs)=_;rw[cp 0 l vs (by simpa using h)];simp
 |n+1,[],vs,h=>by simp at h
 |n+1,a::l,vs,h=>by show Option.rec (motive:=λ_=>Option (List α)) none (λr=>some (a::r)) (dJ n l vs)=_;rw[cp n l vs (by simp at h;omega)];simp[Nat.add_right_comm n 1]
theorem bT{α β:Type}{c:α->List β}{n:Nat}(hc:∀x,(c x).length=n):∀l:List α,(l.flatMap c).length=l.length*n
 |[]=>bL
 |x::l=>by simp[hc x,bT hc l,mw,mq]
theorem dY{α β:Type}{c:α->List β}{n:Nat}(hc:∀x,(c x).length=n):∀(l:List α) (i:Nat),(l.flatMap c).drop (i*n)=(l.drop i).flatMap c
 |_,0=>bL
 |[],_+1=>bL
 |x::l,i+1=>by
  have:(i+1)*n=(c x).length+i*n:=by rw[hc x,mw,mq]
  rw[bG,this,iz,lN,<-dY hc l i];simp
theorem fg{α β:Type}{c:α->List β}{n:Nat}(hc:∀x,(c x).length=n):∀(l:List α) (i:Nat),(l.flatMap c).take (i*n)=(l.take i).flatMap c
 |_,0=>bL
 |[],_+1=>bL
 |x::l,i+1=>by
  have:(i+1)*n=(c x).length+i*n:=by rw[hc x,mw,mq]
  rw[bG,this,za,lE,bG,<-fg hc l i,aD ah];simp
abbrev Jm{α:Type}(c:α->List AV)(l:List α):AV:= .fz l.length (l.flatMap c)
theorem ni{c:α->List β}(hc:∀x,(c x).length=n){l:List α}(h:i<=l.length):ed (i*n) (l.flatMap c)=some ((l.drop i).flatMap c):=by rw[eF,dY hc];rw[bT hc];exact aI _ h
theorem Cd[Inhabited α]{c:α->List β}(hc:∀x,(c x).length=n){l:List α}(h:i<l.length):de n ((l.drop i).flatMap c)=some (c (l.getD i default)):=by
 have e:l.drop i=l.getD i default::l.drop (i+1):=by rw[da h];simp[List.getD,h]
 rw[e,bG,bO _ _ (by simp[hc])];rw[aB (by rw[hc];exact an _),aD (by rw[hc];exact an _)]
theorem XQ[Inhabited α]{c:α->List β}{d:α->β}(hc:∀x,c x=[d x]){l:List α}(h:i<l.length):iW 0 ((l.drop i).flatMap c)=some (d (l.getD i default)):=by
 have e:l.drop i=l.getD i default::l.drop (i+1):=by rw[da h];simp[List.getD,h]
 rw[e,bG,hc];rfl
structure Hd where
 ao:Nat
 bk:Nat
 deriving DecidableEq,Inhabited
def Hd.cells(h:Hd):List AV:=[int h.ao,u64 h.bk]
def Hd.av(h:Hd):AV:= .agg h.cells
def fH(s:ba):List AV:=[bR s]
abbrev strs(l:List ba):AV:=Jm fH l
abbrev r7(l:List Hd):AV:=Jm Hd.cells l
variable{cs:List AV}{h':aG}{nx':Nat}
section
variable{P:Program}
section
variable{α:Type}{a b:α}{l vs:List α}{n:Nat}
theorem adZ:iW 0 (a::l)=some a:=bF rfl
theorem acN:iW (n+1) (a::l)=iW n l:=bF rfl
theorem fS:ed 0 l=some l:=by cases l<;>rfl
theorem Zs:ed (n+1) (a::l)=ed n l:=bF rfl
theorem pV:de 0 l=some []:=by cases l<;>rfl
def Lu(a:α):Option (List α)->Option (List α)
 |some r=>some (a::r)
 |none=>none
theorem J5:Lu a (some l)=some (a::l):=bF rfl
theorem YW:de (n+1) (a::l)=Lu a (de n l):=by show Option.rec (motive:=λ_=>Option (List α)) none (λr=>some (a::r)) (de n l)=_;cases de n l<;>rfl
theorem aaV:dJ 0 l []=some l:=by cases l<;>rfl
theorem aew:dJ 0 (a::l) (b::vs)=Lu b (dJ 0 l vs):=by show Option.rec (motive:=λ_=>Option (List α)) none (λr=>some (b::r)) (dJ 0 l vs)=_;cases dJ 0 l vs<;>rfl
theorem ad1:dJ (n+1) (a::l) vs=Lu a (dJ n l vs):=by show Option.rec (motive:=λ_=>Option (List α)) none (λr=>some (a::r)) (dJ n l vs)=_;cases dJ n l vs<;>rfl
end
theorem Sz{b:Bool}:AWv (bQ b) true=some b:=by cases b<;>rfl
theorem ON{b:Bool}:AWv (bQ b) false=some (!b):=by cases b<;>rfl
def N7(d:Option TypeDesc)(h:aG)(a:AV):Option AV:=match d with
 |some .string=>match a with
  | .g (.string s)=>some (.g (goInt s.size))
  |_=>none
 |some (.slice _)=>match a with
  | .g (.slice _ n _)=>some (.g (goInt n))
  | .sl _ _ n _=>some (.g (goInt n))
  | .mD _ _ _ n=>some (.g (goInt n))
  | .sle=>some (.g (goInt 0))
  | .fz n _=>some (.g (goInt n))
  | .e0=>some (.g (goInt 0))
  |_=>none
 |some (.map _ _)=>match a with
  | .g (.map none)=>some (.g (goInt 0))
  | .mp b=>match au h b with|some (.map es _)=>some (.g (goInt es.length))|_=>none
  |_=>none
 |_=>none
theorem acr{h:aG}{a:AV}:MK P t h a=N7 (P.underlying t) h a:=bF rfl
section
variable{e f:TypeId}{h:aG}
theorem abU{n:Nat}:N7 (some (.slice e)) h (.fz n cs)=some (int n):=bF rfl
theorem aer{b off n c:Nat}:N7 (some (.slice e)) h (.sl b off n c)=some (int n):=bF rfl
theorem ZS{n c:Nat}:N7 (some (.slice e)) h (.g (.slice none n c))=some (int n):=bF rfl
theorem acW{l:ba}:N7 (some .string) h (bR l)=some (int l.length):=bF rfl
end
def MH(g:Option Bool)(n:Option Nat)(o:Option AO)(off:Nat):Option AV:=match g,n with
 |some true,some n=>match o with
  |some o=>match o.cells? with
   |some cs=>((ed off cs).bind (de n)).map .agg
   |none=>none
  |none=>none
 |some false,some _=>match o with
  |some o=>match o.cells? with|some cs=>iW off cs|none=>none
  |none=>none
 |_,_=>none
theorem Xe{h:aG}{b off:Nat}:vD P h t (.ptr b off)=MH (yg P t) (cN P t) (au h b) off:=by
 unfold vD MH cK;cases yg P t with
 |none=>rfl
 |some g=>
  cases cN P t with
  |none=>cases g<;>rfl
  |some n=>
   cases g with
   |false=>rfl
   |true=>
    dsimp only;cases au h b with
    |none=>rfl
    |some o=>
     dsimp only;cases o.cells? with
     |none=>rfl
     |some cs=>
      dsimp only;cases ed off cs with
      |none=>rfl
      |some r=>simp only[aS];cases de n r<;>rfl
theorem Ox{n off:Nat}{e:TypeId}:MH (some true) (some n) (some (.cells cs e)) off=((ed off cs).bind (de n)).map .agg:=bF rfl
theorem No{n off:Nat}{e:TypeId}:MH (some false) (some n) (some (.cells cs e)) off=iW off cs:=bF rfl
def Lh(g:Option Bool)(n:Option Nat)(cs:List AV):Option AV:=match g,n with
 |some true,some n=>(de n cs).map .agg
 |some false,some _=>iW 0 cs
 |_,_=>none
theorem Zw{h:aG}:vD P h t (.fp cs)=Lh (yg P t) (cN P t) cs:=by
 unfold vD Lh;cases yg P t with
 |none=>rfl
 |some g=>
  cases cN P t with
  |none=>cases g<;>rfl
  |some n=>cases g with
   |false=>rfl
   |true=>dsimp only;cases de n cs<;>rfl
theorem M8{n:Nat}:Lh (some true) (some n) cs=(de n cs).map .agg:=bF rfl
theorem ND{n:Nat}:Lh (some false) (some n) cs=iW 0 cs:=bF rfl
theorem Im{l:List ba}{k:Nat}(hk:k<l.length):iW 0 ((l.drop k).flatMap fH)=some (bR (l.getD k [])):=by rw[XQ (c:=fH) (d:=bR) (λ_=>rfl) hk];rfl
theorem uZ:∀x,(fH x).length=1:=λ_=>rfl
theorem gr:∀x:Hd,(Hd.cells x).length=2:=λ_=>rfl
theorem jA{l:List Hd}{k:Nat}(hk:k<l.length):de 2 ((l.drop k).flatMap Hd.cells)=some (l.getD k default).cells:=Cd gr hk
def Jo(o:Option AO)(off n:Nat):Option (List AV):=match o with
 |some o=>match o.cells? with
  |some cs=>(ed off cs).bind (de n)
  |none=>none
 |none=>none
theorem cr{h:aG}{b off n:Nat}:cK h b off n=Jo (au h b) off n:=by
 unfold cK Jo;cases au h b with
 |none=>rfl
 |some o=>dsimp only;cases o.cells? with
  |none=>rfl
  |some cs=>dsimp only;cases ed off cs<;>rfl
theorem cB{e:TypeId}{off n:Nat}:Jo (some (.cells cs e)) off n=(ed off cs).bind (de n):=bF rfl
def Gd(h:aG)(b:Nat)(o:Option AO)(off:Nat)(vs:List AV):Option aG:=match o with
 |some (.cells cs e)=>(dJ off cs vs).map λr=>aK h b (.cells r e)
 |some (.eP cs e es)=>(dJ off cs vs).map λr=>aK h b (.eP r e es)
 |_=>none
theorem xN{h:aG}{b off:Nat}{vs:List AV}:eQ h b off vs=Gd h b (au h b) off vs:=by
 unfold eQ Gd;cases au h b with
 |none=>rfl
 |some o=>cases o with
  |cells cs e=>dsimp only;cases dJ off cs vs<;>rfl
  |eP cs e es=>dsimp only;cases dJ off cs vs<;>rfl
  |_=>rfl
theorem vo{h:aG}{b off:Nat}{vs:List AV}{e:TypeId}:Gd h b (some (.cells cs e)) off vs=(dJ off cs vs).map λr=>aK h b (.cells r e):=bF rfl
def HV(sz:Option Nat)(b off:Nat)(m:Option Nat):Option QR:=match m with
 |some m=>sz.map λsize=> .val (.ptr b (off+m*size))
 |none=>none
def Rz(sz:Option Nat)(cs:List AV)(m:Option Nat):Option QR:=match m with
 |some m=>sz.bind λsize=>(ed (m*size) cs).map λl=> .val (.fp l)
 |none=>none
def rT(d:Option TypeDesc)(sz:TypeId->Option Nat)(x i:AV):Option QR:=match d with
 |some (.slice e)=>match x with
  | .sl b off len _=>HV (sz e) b off ((lK i).bind (nj len))
  | .mD b off _ len=>HV (sz e) b off ((lK i).bind (nj len))
  | .fz len cs=>Rz (sz e) cs ((lK i).bind (nj len))
  |_=>none
 |some (.array len e)=>match x with
  | .ptr b off=>HV (sz e) b off ((lK i).bind (nj len))
  | .fp cs=>Rz (sz e) cs ((lK i).bind (nj len))
  |_=>none
 |_=>none
theorem HQ{e b off len i}:uz P e b off len i=HV (cN P e) b off ((lK i).bind (nj len)):=by
 unfold uz HV;cases lK i with
 |none=>rfl
 |some n=>simp only[aS];cases nj len n with
  |none=>rfl
  |some m=>dsimp only;cases cN P e<;>rfl
theorem Mf{e cs len i}:AJ P e cs len i=Rz (cN P e) cs ((lK i).bind (nj len)):=by
 unfold AJ Rz;cases lK i with
 |none=>rfl
 |some n=>simp only[aS];cases nj len n with
  |none=>rfl
  |some m=>dsimp only;cases cN P e with
   |none=>rfl
   |some size=>simp only[aS];cases ed (m*size) cs<;>rfl
theorem aed{x i:AV}:Jt P t x i=rT (P.underlying t) (cN P) x i:=by
 unfold rT Jt;cases P.underlying t with
 |none=>rfl
 |some d=>
  cases d with
  |slice e=>cases x<;>simp only[HQ,Mf]
  |array n e=>cases x<;>simp only[HQ,Mf]
  |_=>rfl
section
variable{e:TypeId}{sz:TypeId->Option Nat}{k:Nat}
theorem Ag{b off len c:Nat}(hk:k<len):rT (some (.slice e)) sz (.sl b off len c) (int k)=(sz e).map λsize=> .val (.ptr b (off+k*size)):=by simp only[rT,lK,aS,qu hk,HV]
theorem sS{len:Nat}(hk:k<len):rT (some (.slice e)) sz (.fz len cs) (int k)=(sz e).bind λsize=>(ed (k*size) cs).map λl=> .val (.fp l):=by simp only[rT,lK,aS,qu hk,Rz]
theorem DM{l:List ba}(hk:k<l.length):rT (some (.slice e)) sz (strs l) (int k)=(sz e).bind λsize=>(ed (k*size) (l.flatMap fH)).map λl=> .val (.fp l):=sS hk
theorem SY{l:List Hd}(hk:k<l.length):rT (some (.slice e)) sz (r7 l) (int k)=(sz e).bind λsize=>(ed (k*size) (l.flatMap Hd.cells)).map λl=> .val (.fp l):=sS hk
theorem RK{b off n:Nat}(hk:k<n):rT (some (.array n e)) sz (.ptr b off) (int k)=(sz e).map λsize=> .val (.ptr b (off+k*size)):=by simp only[rT,lK,aS,qu hk,HV]
theorem Oi{l:List ba}(hk:k<l.length):ed (k*1) (l.flatMap fH)=some ((l.drop k).flatMap fH):=ni uZ ah
theorem Ut{l:List Hd}(hk:k<l.length):ed (k*2) (l.flatMap Hd.cells)=some ((l.drop k).flatMap Hd.cells):=ni gr ah
end
theorem Pure.mk{h:aG}{Q:AV->Prop}{v u:AV}(h1:∀b,b<nx->au h' b=au h b)(h2:Fz h' nx v u)(h3:Q u):Pure h nx Q v h' nx':=⟨h1,u,h2,h3⟩
theorem Pure.g{h:aG}{nx:Nat}{Q:AV->Prop}{v:Value}{h':aG}{nx':Nat}(h1:∀b,b<nx->au h' b=au h b)(h3:Q (.g v)):Pure h nx Q (.g v) h' nx':=⟨h1,_,.cQ trivial,h3⟩
attribute[go_sem] aed Ag DM SY RK Oi Ut adZ acN fS Zs pV YW J5 aaV aew ad1 Sz ON acr abU aer ZS acW Xe Ox No Zw M8 ND Im jA xN vo aS dC
 fx dD fj fB
end
variable{q:Bool}
section
variable{P:Program}{h:aG}{t:TypeId}{x y:Operand}{k:IntKind}{m n:Int}
theorem aav:cZ P h .add t x y (.g (.int k m)) (.g (.int k n))=some (.g (.int k (cF k (m+n)))):=by simp[cZ,eD,ts]
theorem Vg:cZ P h .sub t x y (.g (.int k m)) (.g (.int k n))=some (.g (.int k (cF k (m-n)))):=by simp[cZ,eD,ts]
theorem Va:cZ P h .lss t x y (.g (.int k m)) (.g (.int k n))=some (bQ (decide (m<n))):=by simp[cZ,eD,ts]
theorem ZV:cZ P h .leq t x y (.g (.int k m)) (.g (.int k n))=some (bQ (decide (m<=n))):=by simp[cZ,eD,ts]
theorem aax:cZ P h .gtr t x y (.g (.int k m)) (.g (.int k n))=some (bQ (decide (n<m))):=by simp[cZ,eD,ts]
theorem YX:cZ P h .geq t x y (.g (.int k m)) (.g (.int k n))=some (bQ (decide (n<=m))):=by simp[cZ,eD,ts]
theorem Yh:cZ P h .eql t x y (.g (.int k m)) (.g (.int k n))=some (bQ (decide (m=n))):=by simp only[cZ,eD,ts,cz];by_cases e:m=n<;>simp[e]
theorem Xv:cZ P h .neq t x y (.g (.int k m)) (.g (.int k n))=some (bQ (!decide (m=n))):=by simp only[cZ,eD,ts,cz];by_cases e:m=n<;>simp[e,bne]
theorem LO(hu:P.underlying t=some .bool)(a b:Bool):br P (Op.equal t (.bool a) (.bool b))=some (a==b):=by unfold Op.equal Op.maxDepth Op.equalIn;simp only[bX,gI hu,cG]
theorem Ls{e:TypeId}(hu:P.underlying t=some (.pointer e)):br P (Op.equal t (.pointer none) (.pointer none))=some true:=by unfold Op.equal Op.maxDepth Op.equalIn;simp only[bX,gI hu,cG,Option.isNone_none]
theorem R8{l r:Array TypeId}(hu:P.underlying t=some (.func l r q)):br P (Op.equal t .nilFunc .nilFunc)=some true:=by unfold Op.equal Op.maxDepth Op.equalIn;simp only[bX,gI hu,cG]
def Zf(d:Option TypeDesc)(a b:AV):Option Bool:=match d with
 |some .bool=>match a,b with
  | .g (.bool a),.g (.bool b)=>some (a==b)
  |_,_=>none
 |some (.pointer _)=>match a,b with
  | .g (.pointer none),.g (.pointer none)=>some true
  | .ptr _ _,.g (.pointer none)=>some false
  | .g (.pointer none),.ptr _ _=>some false
  |_,_=>none
 |some (.func _ _ _)=>match a,b with
  | .g .nilFunc,.g .nilFunc=>some true
  | .fn _ _,.g .nilFunc=>some false
  |_,_=>none
 |some (.interface _)=>match a,b with
  | .kB _ _,.g .nilIface=>some false
  |_,_=>none
 |some (.slice _)=>match a,b with
  | .sl ..,.g (.slice none _ _)=>some false
  |_,_=>none
 |_=>none
theorem oM{a b:AV}{r:Bool}(hr:Zf (P.underlying t) a b=some r):cZ P h .eql t x y a b=some (bQ r)/\cZ P h .neq t x y a b=some (bQ !r):=by
 unfold Zf at hr;split at hr
 .rename_i hu;split at hr
  .injection hr with hr;subst hr
   rename_i a b;have h1:br P (do eqGuard .eql t x y (.bool a) (.bool b);binOp .eql t (.bool a) (.bool b))=some (.bool (a==b)):=by unfold binOp eqGuard;simp only[bX,cG,LO hu];rfl
   have h2:br P (do eqGuard .neq t x y (.bool a) (.bool b);binOp .neq t (.bool a) (.bool b))=some (.bool (!(a==b))):=by unfold binOp eqGuard;simp only[bX,cG,LO hu];rfl
   simp[cZ,eD,iG,AV.pd,ke,h1,h2]
  .cases hr
 .rename_i e hu;split at hr
  .injection hr with hr;subst hr
   have h1:br P (do eqGuard .eql t x y (.pointer none) (.pointer none);binOp .eql t (.pointer none) (.pointer none))=some (.bool true):=by unfold binOp eqGuard;simp only[bX,cG,Ls hu];rfl
   have h2:br P (do eqGuard .neq t x y (.pointer none) (.pointer none);binOp .neq t (.pointer none) (.pointer none))=some (.bool false):=by unfold binOp eqGuard;simp only[bX,cG,Ls hu];rfl
   simp[cZ,eD,iG,AV.pd,ke,h1,h2]
  .injection hr with hr;subst hr
   simp[cZ,eD,iG,AV.pd,pG,vy,hu,DH]
  .injection hr with hr;subst hr
   simp[cZ,eD,iG,AV.pd,pG,vy,hu,DH]
  .cases hr
 .rename_i l r q hu;split at hr
  .injection hr with hr;subst hr
   have h1:br P (do eqGuard .eql t x y .nilFunc .nilFunc;binOp .eql t .nilFunc .nilFunc)=some (.bool true):=by unfold binOp eqGuard;simp only[bX,cG,R8 hu];rfl
   have h2:br P (do eqGuard .neq t x y .nilFunc .nilFunc;binOp .neq t .nilFunc .nilFunc)=some (.bool false):=by unfold binOp eqGuard;simp only[bX,cG,R8 hu];rfl
   simp[cZ,eD,iG,AV.pd,ke,h1,h2]
  .injection hr with hr;subst hr
   simp[cZ,eD,iG,AV.pd,pG,vy,hu,qJ,TA,Dk]
  .cases hr
 .rename_i ms hu;split at hr
  .injection hr with hr;subst hr
   rename_i tt v;cases hv:v.pd with
   |none=>simp[cZ,eD,iG,AV.pd,hv,pG,vy,hu,qJ,isIf,De]
   |some u=>
    have h0:br P (Op.equal t (.iface tt u) .nilIface)=some false:=by unfold Op.equal Op.maxDepth Op.equalIn;simp only[bX,gI hu,cG]
    have h1:br P (do eqGuard .eql t x y (.iface tt u) .nilIface;binOp .eql t (.iface tt u) .nilIface)=some (.bool false):=by unfold binOp eqGuard;simp only[bX,cG,h0];rfl
    have h2:br P (do eqGuard .neq t x y (.iface tt u) .nilIface;binOp .neq t (.iface tt u) .nilIface)=some (.bool true):=by unfold binOp eqGuard;simp only[bX,cG,h0];rfl
    simp[cZ,eD,iG,AV.pd,hv,ke,h1,h2]
  .cases hr
 .rename_i ms hu;split at hr
  .injection hr with hr;subst hr
   simp[cZ,eD,iG,AV.pd,pG,vy,hu,qJ,JQ,xh]
  .cases hr
 .cases hr
def Mz:Option TypeDesc->Bool
 |some .bool=>true
 |_=>false
def KR:Option TypeDesc->Bool
 |some (.pointer _)=>true
 |_=>false
def dFn:Option TypeDesc->Bool
 |some (.func _ _ _)=>true
 |_=>false
def dIf:Option TypeDesc->Bool
 |some (.interface _)=>true
 |_=>false
def dSl:Option TypeDesc->Bool
 |some (.slice _)=>true
 |_=>false
theorem dB1:Mz (some .bool)=true:=bF rfl
theorem dP1{e}:KR (some (.pointer e))=true:=bF rfl
theorem dS1{e}:dSl (some (.slice e))=true:=bF rfl
section
variable{a b:Bool}{p o:Nat}{f:FuncId}{c:List AV}{tt:TypeId}{v:AV}
theorem aa2(hu:Mz (P.underlying t)=true):Zf (P.underlying t) (bQ a) (bQ b)=some (a==b):=by
 cases hd:P.underlying t with
 |none=>rw[hd]at hu;cases hu
 |some d=>rw[hd]at hu;cases d<;>first|rfl|cases hu
theorem QH(hu:KR (P.underlying t)=true):Zf (P.underlying t) Fw Fw=some true:=by
 cases hd:P.underlying t with
 |none=>rw[hd]at hu;cases hu
 |some d=>rw[hd]at hu;cases d<;>first|rfl|cases hu
theorem P6(hu:KR (P.underlying t)=true):Zf (P.underlying t) (.ptr p o) Fw=some false:=by
 cases hd:P.underlying t with
 |none=>rw[hd]at hu;cases hu
 |some d=>rw[hd]at hu;cases d<;>first|rfl|cases hu
theorem aez(hu:dFn (P.underlying t)=true):Zf (P.underlying t) (.g .nilFunc) (.g .nilFunc)=some true:=by
 cases hd:P.underlying t with
 |none=>rw[hd]at hu;cases hu
 |some d=>rw[hd]at hu;cases d<;>first|rfl|cases hu
theorem adp(hu:dFn (P.underlying t)=true):Zf (P.underlying t) (.fn f c) (.g .nilFunc)=some false:=by
 cases hd:P.underlying t with
 |none=>rw[hd]at hu;cases hu
 |some d=>rw[hd]at hu;cases d<;>first|rfl|cases hu
theorem aca(hu:dIf (P.underlying t)=true):Zf (P.underlying t) (.kB tt v) (.g .nilIface)=some false:=by
 cases hd:P.underlying t with
 |none=>rw[hd]at hu;cases hu
 |some d=>rw[hd]at hu;cases d<;>first|rfl|cases hu
theorem aaF(hu:Mz (P.underlying t)=true):cZ P h .eql t x y (bQ a) (bQ b)=some (bQ (a==b)):=(oM (aa2 hu)).1
theorem XU(hu:Mz (P.underlying t)=true):cZ P h .neq t x y (bQ a) (bQ b)=some (bQ (!(a==b))):=(oM (aa2 hu)).2
theorem VJ(hu:KR (P.underlying t)=true):cZ P h .eql t x y Fw Fw=some (bQ true):=(oM (QH hu)).1
theorem aaD(hu:KR (P.underlying t)=true):cZ P h .neq t x y Fw Fw=some (bQ false):=(oM (QH hu)).2
theorem TT(hu:KR (P.underlying t)=true):cZ P h .eql t x y (.ptr p o) Fw=some (bQ false):=(oM (P6 hu)).1
theorem QU(hu:KR (P.underlying t)=true):cZ P h .neq t x y (.ptr p o) Fw=some (bQ true):=(oM (P6 hu)).2
theorem aea(hu:dFn (P.underlying t)=true):cZ P h .neq t x y (.g .nilFunc) (.g .nilFunc)=some (bQ false):=(oM (aez hu)).2
theorem Vz(hu:dFn (P.underlying t)=true):cZ P h .eql t x y (.fn f c) (.g .nilFunc)=some (bQ false):=(oM (adp hu)).1
theorem Wm(hu:dIf (P.underlying t)=true):cZ P h .eql t x y (.kB tt v) (.g .nilIface)=some (bQ false):=(oM (aca hu)).1
end
theorem aaG(a b:ba):decide (vv a b<0)=decide (a<b):=by
 unfold vv;by_cases h1:a<b;.simp[h1]
 .by_cases h2:b<a<;>simp[h1,h2]
theorem VU(a b:ba):decide (0<=vv a b)= !decide (a<b):=by
 unfold vv;by_cases h1:a<b;.simp[h1]
 .by_cases h2:b<a<;>simp[h1,h2]
theorem Wz(a b:ba):decide (vv a b<=0)= !decide (b<a):=by
 unfold vv;by_cases h1:a<b;.have:¬b<a:=λh=>absurd (List.lt_trans h1 h) (List.lt_irrefl a);simp[h1,this]
 .by_cases h2:b<a<;>simp[h1,h2]
attribute[go_sem] qF oG Bool.and_true xQ Bool.and_false oc Bool.or_false pJ Ap K8 Mg L9 rj Af dB1 dP1 dS1 Wm aav Vg Va ZV aax YX Yh Xv aaF XU VJ aaD TT QU Vz aea aaG VU Wz
end
variable{K:AV->aG->Nat->Prop}{args':List AV}{es:Nat}{fn:Func}{mi:Int}
def dr(r:AV)(h:aG)(nx:Nat):AV->aG->Nat->Prop:=λv h' nx'=>v=r/\h'=h/\nx'=nx
def bo(f:FuncId)(args:List AV)(r:AV):Prop:=∀h nx,aA prog f args h nx (dr r h nx)
theorem bo.of{T:Nat->cU}{c:Code}(hf:prog.funcs[f]?=some fn)(hb:fn.body=some c)(Re:fn.results.toList=rs)
 (hd:(gM fn.ntmps c&&fh prog T c)=true)  (ha:args.length<=fn.ntmps) {r:AV}
 (hw:∀h nx,W prog xt T c (Fin prog rs (Pure h nx λv=>v=r)) (ey args 0 .nil) h nx):bo f args r:=
 λh nx=>aA.pure prog xt pk T hf hb Re hd ha (hw h nx)
theorem aA.of{T:Nat->cU}{c:Code}(hf:prog.funcs[f]?=some fn)(hb:fn.body=some c)(Re:fn.results.toList=rs)
 (hd:(gM fn.ntmps c&&fh prog T c)=true)  (ha:args.length<=fn.ntmps) {h:aG}  
 (hw:W prog xt T c (Fin prog rs Q) (ey args 0 .nil) h nx):aA prog f args h nx Q:=
 aA.aiR prog xt pk T hf hb Re hd ha hw
theorem aZ{r:AV}(hc:bo f args r){h:aG}{k:Kp K}(hk:K r h nx):Bu prog f args h nx K k:=
 (hc h nx).mono _ λ_ _ _ ⟨a,b,c⟩=>by subst a;subst b;subst c;exact hk
theorem aA.le{P:Program}{h:aG}(hc:aA P f args h nx Q):aA P f args h nx λv h' nx'=>nx<=nx'/\Q v h' nx':=
 ⟨hc.1,λr w0 w vs hH hv=>(hc.2 r w0 w vs hH hv).mono λ_ _ ⟨u,r',v,h',nx',a,b,c,d,e,g,q⟩=>⟨u,r',v,h',nx',a,b,c,d,e,g,d,q⟩⟩
theorem cf{h:aG}(hc:aA prog f args h nx Q){k:Kp K}(hk:∀v h' nx',nx<=nx'->Q v h' nx'->K v h' nx'):Bu prog f args h nx K k:=
 hc.le.mono _ λv h' nx' q=>hk v h' nx' q.1 q.2
theorem oa{len n:Nat}{F:Nat->List Value->Prop}{k:Kp F}(hk:∀(cap:Nat) (gs:List Value),len<=cap->n+gs.length=cap*es->F cap gs):Lo len es n F k:=hk
abbrev T0:Nat->cU:=λ_=>[]
noncomputable def acB(T:Nat->cU)(fn:Func)(n:Nat):Bool:=fn.body.isSome&&(gM fn.ntmps (fn.body.getD .skip)&&fh prog T (fn.body.getD .skip))&&decide (n<=fn.ntmps)
theorem sZ{T:Nat->cU}{n:Nat}(hd:acB T fn n=true):fn.body=some (fn.body.getD .skip)/\(gM fn.ntmps (fn.body.getD .skip)&&fh prog T (fn.body.getD .skip))=true/\n<=fn.ntmps:=by
 unfold acB at hd;rw[aV,aV]at hd;obtain⟨⟨h1,h2⟩,h3⟩:=hd;refine⟨?_,h2,dM h3⟩;cases hb:fn.body with
 |none=>rw[hb]at h1;cases h1
 |some c=>rfl
theorem aA.ac{h:aG}(n:Nat)(T:Nat->cU)(hf:prog.funcs[f]?=some fn)(hw:W prog xt T (fn.body.getD .skip) (Fin prog fn.results.toList Q) (ey args 0 .nil) h nx)(hn:args.length=n:=by rfl)(hd:acB T fn n=true:=by kernel_rfl):aA prog f args h nx Q:=
 aA.of (T:=T) hf (sZ hd).1 rfl (sZ hd).2.1 (by rw[hn];exact(sZ hd).2.2) hw
theorem bo.ac{r:AV}(n:Nat)(T:Nat->cU)(hf:prog.funcs[f]?=some fn)(hw:∀h nx,W prog xt T (fn.body.getD .skip) (Fin prog fn.results.toList (Pure h nx λv=>v=r)) (ey args 0 .nil) h nx)(hn:args.length=n:=by rfl)(hd:acB T fn n=true:=by kernel_rfl):bo f args r:=
 bo.of (T:=T) hf (sZ hd).1 rfl (sZ hd).2.1 (by rw[hn];exact(sZ hd).2.2) hw
theorem aA.pc{h:aG}{Q:AV->Prop}(n:Nat)(T:Nat->cU)(hf:prog.funcs[f]?=some fn)(hw:W prog xt T (fn.body.getD .skip) (Fin prog fn.results.toList (Pure h nx Q)) (ey args 0 .nil) h nx)(hn:args.length=n:=by rfl)(hd:acB T fn n=true:=by kernel_rfl):aA prog f args h nx λv h1 cm=>Q v/\h1=h/\cm=nx:=
 aA.pure prog xt pk T hf (sZ hd).1 rfl (sZ hd).2.1 (by rw[hn];exact(sZ hd).2.2) hw
def aH(n:Nat)(h h':aG):Prop:=∀b,b<n->au h' b=au h b
def MD(n b0:Nat)(h h':aG):Prop:=∀b,b<n->b≠b0->au h' b=au h b
theorem aH.refl{n:Nat}{h:aG}:aH n h h:=λ_ _=>rfl
theorem aH.trans{n m:Nat}{h h' J4:aG}(a:aH n h h')(b:aH m h' J4)(hm:n<=m):aH n h J4:=λc hc=>(b c ah).trans (a c hc)
theorem aH.set{n c:Nat}{h:aG}{o:AO}(a:aH n h h')(hc:n<=c):aH n h (aK h' c o):=λb hb=>by rw[aj,ak ah];exact a b hb
theorem aH.le{n m:Nat}{h:aG}(a:aH m h h')(hm:n<=m):aH n h h':=λb hb=>a b ah
theorem MD.same{n m b0:Nat}{h:aG}(a:MD n b0 h h')(h1:m<=b0)(h2:m<=n):aH m h h':=λb hb=>a b ah ah
theorem xM{h:aG}{b c:Nat}{o:AO}(hb:b<nx)(hc:nx<=c):au (aK h c o) b=au h b:=yL
theorem Pure.of{h:aG}{r:AV}{v:AV}(h1:aH nx h h')(h2:Fz h' nx v r):Pure h nx (λv=>v=r) v h' nx':=⟨h1,r,h2,rfl⟩
theorem Fz.cA{h:aG}{v:Value}:Fz h nx (.g v) (.g v):= .cQ trivial
theorem Fz.bR{h:aG}{nx:Nat}{l:ba}:Fz h nx (bR l) (bR l):= .cQ trivial
theorem yS{P:Program}(he:∃fr,bI.enter P f args false=some fr)(hl:args.length=args'.length):∃fr,bI.enter P f args' false=some fr:=by
 obtain⟨fr,he⟩:=he;unfold bI.enter at he⊢;cases hf:P.funcs[f]? with
 |none=>rw[hf]at he;cases he
 |some fn=>
  rw[hf]at he;dsimp only at he⊢;cases hb:fn.body with
  |none=>rw[hb]at he;cases he
  |some c=>
   rw[hb]at he;dsimp only at he⊢;rw[<-hl];split at he;.rename_i bP;rw[aw bP];exact⟨_,rfl⟩
   .cases he
theorem aA.empty{P:Program}{rest:List AV}{h:aG}(h1:aA P f (.g (.slice none 0 0)::rest) h nx Q)(h2:aA P f (.sle::rest) h nx Q):aA P f (.fz 0 []::rest) h nx Q:=by
 refine⟨yS h1.1 rfl,λr w0 w vs hH hv=>?_⟩;cases hv with
 |cons e t=>
  cases e with
  |Cx=>exact h1.2 r w0 w _ hH (.cons (.g _) t)
  |Br=>exact h2.2 r w0 w _ hH (.cons .sle t)
  |fz a b c=>cases c;exact h2.2 r w0 w _ hH (.cons .sle t)
section
variable{P:Program}{h:aG}{t e:TypeId}{sz b off len cap i j:Nat}{lo hi:Option AV}{cs:List AV}
theorem asl(hu:P.underlying t=some (.slice e))(hs:cN P e=some sz):eS P t (.sl b off len cap) lo hi=sv sz b off len cap lo hi:=by unfold eS;simp only[hu,hs]
theorem asf(hu:P.underlying t=some (.slice e))(hs:cN P e=some sz):eS P t (.fz len cs) lo hi=vq sz len cs lo hi:=by unfold eS;simp only[hu,hs]
theorem acz(hu:P.underlying t=some (.slice e))(hs:cN P e=some sz){hi:AV}:mz P t (.sl b off len cap) lo hi (int mi)=Lw sz b off cap mi lo hi:=by unfold mz;simp only[hu,hs,lK]
theorem aeR(hu:P.underlying t=some (.slice e))(hs:cN P e=some sz){hi:AV}:mz P t (.fz len cs) lo hi (int mi)=ZC sz len cs mi lo hi:=by unfold mz;simp only[hu,hs,lK]
theorem Ma(hl:i<=len):sv sz b off len cap (some (int i)) none=some (.sl b (if cap=i then off else off+i*sz) (len-i) (cap-i)):=by simp only[sv,fe,lK,fX hl]
theorem Mx(hl:i<=cap):sv sz b off len cap none (some (int i))=some (.sl b off i cap):=by simp[sv,fe,lK,fX hl]
theorem Lv(h1:i<=j)(h2:j<=cap):sv sz b off len cap (some (int i)) (some (int j))=some (.sl b (if cap=i then off else off+i*sz) (j-i) (cap-i)):=by simp only[sv,fe,lK,fX h1,fX h2]
theorem adG{m:Nat}(h1:i<=j)(h2:j<=m)(h3:m<=cap):Lw sz b off cap m (some (int i)) (int j)=some (.sl b (if m=i then off else off+i*sz) (j-i) (m-i)):=by simp only[Lw,fe,lK,fX h1,fX h2,fX h3]
theorem ajd{m:Nat}(h2:j<=m)(h3:m<=cap):Lw sz b off cap m none (int j)=some (.sl b off j m):=by simp[Lw,fe,lK,fX h2,fX h3]
def tw(h:aG)(e:TypeId)(size:Nat)(q:Option (Nat×List AV))(s:AV):Option ER:=match q with
 |some p=>if p.1<65536 then pQ h e size p.1 p.2 s else none
 |none=>none
theorem uy(hu:P.underlying t=some (.slice e))(hs:cN P e=some sz){y:Nat}(hy:kg P e=some y){z:List Value}(hz:dy P e=some z)(rQ:(decide (0<sz)&&decide (0<y)&&decide (y<65536)&&z.length==sz)=true){s x:AV}:
 gj P h #[t,t] s x=tw h e sz (dV h sz x) s:=by
 unfold gj;simp only[hu,Sy,hs,hy,hz,M9];unfold tw;cases dV h sz x with
 |none=>rfl
 |some p=>dsimp only;simp only[aV]at rQ;unfold NY;simp only[rQ.1.1.1,rQ.1.1.2,rQ.1.2,rQ.2,xQ,Bool.and_true,fM]
theorem Ah(hu:P.underlying t=some (.slice e))(hs:cN P e=some sz){y:Nat}(hy:kg P e=some y){z:List Value}(hz:dy P e=some z)(rQ:(decide (0<sz)&&decide (0<y)&&decide (y<65536)&&z.length==sz)=true)
 {t':TypeId} {k:IntKind} (hu':P.underlying t'=some (.int k)) {s:AV} {n:Nat}:
 gj P h #[t,t'] s (int n)=tw h e sz (some (n,fK n (z.map .g))) s:=by
 unfold gj;simp only[hu,Sy,hs,hy,hz,M9,hu',Oa,lK];unfold tw;simp only[aV]at rQ;unfold NY;simp only[rQ.1.1.1,rQ.1.1.2,rQ.1.2,rQ.2,xQ,Bool.and_true,fM]
variable{n size:Nat}{new:List AV}
theorem XE{s:AV}(hn:n<65536):tw h e size (some (n,new)) s=pQ h e size n new s:=by simp[tw,hn]
theorem R4{s:AV}:pQ h e size 0 new s=yk h s:=by simp[pQ]
theorem Dr(hl:len<=cap):yk h (.sl b off len cap)=some (.val (.sl b off len cap) h):=by simp[yk,hl]
theorem Be(hn:(n==0)=false):pQ h e size n new (.g (.slice none 0 0))=some (.pT (.eP new e size) n h):=by
 have:n≠0:=by simpa using hn
 simp[pQ,this]
theorem x7(hn:(n==0)=false)(hr:len+n<=cap)(hc:new.all AV.cy=true):pQ h e size n new (.sl b off len cap)=(eQ h b (off+len*size) new).map λh'=> .val (.sl b off (len+n) cap) h':=by
 have:n≠0:=by simpa using hn
 simp only[pQ,this,cC,P0,hr,cz,hc];cases eQ h b (off+len*size) new<;>rfl
theorem yE(hn:(n==0)=false)(hr:¬len+n<=cap)(hs:len+n<65536):pQ h e size n new (.sl b off len cap)=(cK h b off (len*size)).map λold=> .pT (.eP (old++new) e size) (len+n) h:=by
 have:n≠0:=by simpa using hn
 have h2:¬65536<=len+n:=ah;simp only[pQ,this,cC,P0,hr,h2];cases cK h b off (len*size)<;>rfl
theorem M5(hl:cs.length=n*size):dV h size (.fz n cs)=some (n,cs):=by simp[dV,hl]
theorem Kh:dV h size .sle=some (0,[]):=bF rfl
theorem yy:dV h size (.sl b off len cap)=(cK h b off (len*size)).map λl=>(len,l):=by simp only[dV];cases cK h b off (len*size)<;>rfl
end
theorem abI{P:Program}{t:TypeId}(hu:dSl (P.underlying t)=true){b o n c:Nat}:Zf (P.underlying t) (.sl b o n c) (.g (.slice none 0 0))=some false:=by
 cases hd:P.underlying t with
 |none=>rw[hd]at hu;cases hu
 |some d=>rw[hd]at hu;cases d<;>first|rfl|cases hu
theorem Fu{α:Type}{c:α->List AV}(hc:∀x,(c x).all AV.cy=true):∀l:List α,(l.flatMap c).all AV.cy=true
 |[]=>rfl
 |x::l=>by rw[bG,tL,hc x,Fu hc l];rfl
variable{b1 b2 c1 c2 o2 size:Nat}{y:Operand}
def Vl(h:aG)(size:Nat)(n:Option Nat)(q:Option (Nat×List AV))(d:AV):Option ER:=match n with
 |some dn=>match q with
  |some p=>tQ h size (Nat.min p.1 dn) p.2 d
  |none=>none
 |none=>none
theorem HK{h:aG}{dn n:Nat}{cs:List AV}{d:AV}:Vl h size (some dn) (some (n,cs)) d=tQ h size (Nat.min n dn) cs d:=bF rfl
def Zi(d:Option TypeDesc)(a:AV):Option QR:=match d with
 |some (.slice _)=>Ua a
 |_=>none
theorem adQ{h:aG}{ev:Operand->AV}{a t}:tO P h ev ⟨.builtin .cap,#[a],#[t]⟩=Zi (P.underlying t) (ev a):=by
 show(match P.underlying t with|some (.slice _)=>Ua (ev a)|_=>none)=_;unfold Zi;cases P.underlying t with
 |none=>rfl
 |some d=>cases d<;>rfl
theorem aar{e b o n c}:Zi (some (.slice e)) (.sl b o n c)=some (.val (int c)):=bF rfl
theorem ab8{h:aG}{o1 n1 n2:Nat}(hb:¬b1=b2)(h1:jl h b1=true)(h2:jl h b2=true):dt h (.Mq t) [.sl b1 o1 n1 c1,.sl b2 o2 n2 c2]=some (.val (bQ false) h):=by simp[dt,Hm,hb,h1,h2]
theorem GS{b o n c:Nat}:pI (.sl b o n c)=some n:=bF rfl
def cpS(h:aG)(n:Nat)(q:Option (List AV))(b off:Nat):Option ER:=match q with
 |some q=>if q.all AV.cy then(eQ h b off q).map λh'=> .val (int n) h' else none
 |none=>none
theorem DY{h:aG}{n b off len cap:Nat}{cs:List AV}(hn:(n==0)=false):tQ h size n cs (.sl b off len cap)=cpS h n (de (n*size) cs) b off:=by
 have:n≠0:=by simpa using hn
 unfold tQ cpS;rw[ak this];cases de (n*size) cs with
 |none=>rfl
 |some q=>
  dsimp only[oW];split;.cases eQ h b off q<;>rfl
  .rfl
theorem G4{h:aG}{n b off:Nat}{q:List AV}(hq:q.all AV.cy=true):cpS h n (some q) b off=(eQ h b off q).map λh'=> .val (int n) h':=by simp[cpS,hq]
section
variable{h:aG}{b off len cap n:Nat}{cs:List AV}{lo hi:Option AV}{v s x:AV}{m:Int}
theorem anK:eS prog 45 (.sl b off len cap) lo hi=sv 1 b off len cap lo hi:=asl yv Pv
theorem akk:eS prog 45 (.fz len cs) lo hi=vq 1 len cs lo hi:=asf yv Pv
theorem acm:mz prog 45 (.sl b off len cap) lo v (int m)=Lw 1 b off cap m lo v:=acz yv Pv
theorem f345:mz prog 45 (.fz len cs) lo v (int m)=ZC 1 len cs m lo v:=aeR yv Pv
theorem amG:eS prog 45 (.g (.slice none 0 0)) (some (int 0)) none=some (.g (.slice none 0 0)):=aL
theorem amI:gj prog h #[45,45] s x=tw h 9 1 (dV h 1 x) s:=uy yv Pv tb9 tz9 bN
theorem akc:gj prog h #[45,3] s (int n)=tw h 9 1 (some (n,fK n [bR []])) s:=by exact Ah yv Pv tb9 tz9 bN Da
theorem alK{ev:Operand->AV}:fy prog ev 45 0 []=some (.pS (.cells [] 9) 0 0):=by simp[fy,Pv,tz9,fG,fo,fK]
theorem akH:qK prog h #[45,45] s x=Vl h 1 (pI s) (dV h 1 x) s:=by
 unfold qK Vl;simp only[yv,Pv];cases pI s with
 |none=>rfl
 |some dn=>cases dV h 1 x<;>rfl
theorem ala:qi prog h #[45] (.sl b off 1 cap)=kR (eQ h b off [bR []]):=by simp[qi,tz9,pI,oW,fK,AV.cy,bR]
end
section
variable{h:aG}{b off len cap n:Nat}{cs:List AV}{lo hi:Option AV}{v s x:AV}{m:Int}
theorem akM:eS prog 46 (.sl b off len cap) lo hi=sv 1 b off len cap lo hi:=asl vP PC
theorem aku:mz prog 46 (.sl b off len cap) lo v (int m)=Lw 1 b off cap m lo v:=acz vP PC
theorem f346:mz prog 46 (.fz len cs) lo v (int m)=ZC 1 len cs m lo v:=aeR vP PC
theorem ak9:eS prog 46 (.g (.slice none 0 0)) (some (int 0)) none=some (.g (.slice none 0 0)):=aL
theorem amm:gj prog h #[46,46] s x=tw h 5 1 (dV h 1 x) s:=uy vP PC tb5 Vt bN
theorem ak5:gj prog h #[46,3] s (int n)=tw h 5 1 (some (n,fK n [u8 0])) s:=by exact Ah vP PC tb5 Vt bN Da
theorem als{ev:Operand->AV}:fy prog ev 46 0 []=some (.pS (.cells [] 5) 0 0):=by simp[fy,PC,Vt,fG,fo,fK]
theorem amW:qK prog h #[46,46] s x=Vl h 1 (pI s) (dV h 1 x) s:=by
 unfold qK Vl;simp only[vP,PC];cases pI s with
 |none=>rfl
 |some dn=>cases dV h 1 x<;>rfl
theorem akC:qi prog h #[46] (.sl b off 1 cap)=kR (eQ h b off [u8 0]):=by simp[qi,Vt,pI,oW,fK,AV.cy]
end
section
variable{h:aG}{b off len cap n:Nat}{cs:List AV}{lo hi:Option AV}{v s x:AV}{m:Int}
theorem ajC:eS prog 243 (.sl b off len cap) lo hi=sv 2 b off len cap lo hi:=asl vB pH
theorem aiB:eS prog 243 (.fz len cs) lo hi=vq 2 len cs lo hi:=asf vB pH
theorem ae9:mz prog 243 (.sl b off len cap) lo v (int m)=Lw 2 b off cap m lo v:=acz vB pH
theorem afI:eS prog 243 (.g (.slice none 0 0)) (some (int 0)) none=some (.g (.slice none 0 0)):=aL
theorem ahi:gj prog h #[243,243] s x=tw h 245 2 (dV h 2 x) s:=uy vB pH QL AZ bN
theorem afk:gj prog h #[243,3] s (int n)=tw h 245 2 (some (n,fK n [int 0,u64 0])) s:=by exact Ah vB pH QL AZ bN Da
theorem aja{ev:Operand->AV}:fy prog ev 243 0 []=some (.pS (.cells [] 245) 0 0):=by simp[fy,pH,AZ,fG,fo,fK]
theorem agA:qK prog h #[243,243] s x=Vl h 2 (pI s) (dV h 2 x) s:=by
 unfold qK Vl;simp only[vB,pH];cases pI s with
 |none=>rfl
 |some dn=>cases dV h 2 x<;>rfl
theorem afj:qi prog h #[243] (.sl b off 1 cap)=kR (eQ h b off [int 0,u64 0]):=by simp[qi,AZ,pI,oW,fK,AV.cy]
end
theorem ad3{h:aG}{x:Operand}{b o n c:Nat}(hu:dSl (prog.underlying t)=true):cZ prog h .eql t x y (.sl b o n c) (.g (.slice none 0 0))=some (bQ false):=(oM (abI hu)).1
theorem adF{h:aG}{x:Operand}{n:Nat}{cs:List AV}(hu:dSl (P.underlying t)=true)(hn:(n==0)=false):cZ P h .eql t x y (.fz n cs) (.g (.slice none 0 0))=some (bQ false):=by
 cases n with
 |zero=>cases hn
 |succ n=>
 cases hd:P.underlying t with
 |none=>rw[hd]at hu;cases hu
 |some d=>
  rw[hd]at hu;cases d<;>first|cases hu|skip
  simp[cZ,eD,iG,AV.pd,pG,vy,hd,qJ,JQ,xh]
theorem WH{h:aG}{x:Operand}(hu:dSl (P.underlying t)=true):cZ P h .eql t x y .sle (.g (.slice none 0 0))=some (bQ false):=by
 cases hd:P.underlying t with
 |none=>rw[hd]at hu;cases hu
 |some d=>
  rw[hd]at hu;cases d<;>first|cases hu|skip
  simp[cZ,eD,iG,AV.pd,pG,vy,hd,qJ,JQ,xh]
theorem aeC{h:aG}{x:Operand}(ht:t=45\/t=46\/t=243):cZ prog h .eql t x y (.g (.slice none 0 0)) (.g (.slice none 0 0))=some (bQ true):=by
 have key:∀t,(t=45\/t=46\/t=243)->br prog (do eqGuard .eql t x y (.slice none 0 0) (.slice none 0 0);binOp .eql t (.slice none 0 0) (.slice none 0 0))=some (.bool true):=by
  intro t ht;have hs:∃e,prog.underlying t=some (.slice e):=by
   rcases ht with rfl|rfl|rfl;.exact⟨_,yv⟩
   .exact⟨_,vP⟩
   .exact⟨_,vB⟩
  obtain⟨e,hu⟩:=hs;have:br prog (Op.equal t (.slice none 0 0) (.slice none 0 0))=some true:=by unfold Op.equal Op.maxDepth Op.equalIn;simp only[bX,gI hu,cG,Option.isNone_none]
  unfold binOp eqGuard;simp only[bX,cG,this];rfl
 simp[cZ,eD,iG,AV.pd,ke,key t ht]
theorem OO{h:aG}:kR (some h)=some (.val (.g undef) h):=bF rfl
theorem zJ(l:List ba):(l.flatMap fH).length=l.length*1:=bT uZ l
theorem Lm(l:List Hd):(l.flatMap Hd.cells).length=l.length*2:=bT gr l
def jc(b:UInt8):List AV:=[.g (.int .u8 (b.toNat:Nat))]
theorem Up:∀x,(jc x).length=1:=λ_=>rfl
theorem zg(l:List UInt8):(l.flatMap jc).length=l.length*1:=bT Up l
theorem ad4(l:List UInt8):(l.flatMap jc).all AV.cy=true:=Fu (λ_=>rfl) l
theorem acX(l:List ba):(l.flatMap fH).all AV.cy=true:=Fu (λ_=>rfl) l
theorem ab4(l:List Hd):(l.flatMap Hd.cells).all AV.cy=true:=Fu (λ_=>rfl) l
attribute[go_sem] zg ad4 adQ aar ab8 an HK GS DY G4 OO Option.map_none zJ Lm acX ab4 eN Mm ch eB bD aq ad3 adF WH aeC XE R4 Dr Be x7 yE M5 Kh yy Ma Mx Lv adG ajd akH alK ala anK akk acm f345 amG amI akc amW als akC akM aku f346 ak9 amm ak5 agA aja afj ajC aiB ae9 afI ahi afk
variable{sz:Nat}
def yA(h:aG)(b off:Nat)(n:Option Nat)(cs:Option (List AV)):Option ER:=match cs with
 |some cs=>match n with
  |some n=>if cs.length==n&&cs.all AV.cy then kR (eQ h b off cs)else none
  |none=>none
 |none=>none
theorem QI{off:Nat}{x:AV}:uq P h t (.ptr b off) x=yA h b off (cN P t) x.cells:=by
 unfold uq yA;cases x.cells with
 |none=>rfl
 |some cs=>dsimp only;cases cN P t<;>rfl
theorem uE{off:Nat}(hl:cs.length=n)(hc:cs.all AV.cy=true):yA h b off (some n) (some cs)=kR (eQ h b off cs):=by simp[yA,hl,hc]
theorem M3{l:ba}:AV.cells (bR l)=some [bR l]:=bF rfl
theorem O3{cs}:AV.cells (.agg cs)=some cs:=bF rfl
theorem NI{b o}:AV.cells (.ptr b o)=some [.ptr b o]:=bF rfl
theorem TQ{b o n c}:AV.cells (.sl b o n c)=some [.sl b o n c]:=bF rfl
theorem MU{k n}:AV.cells (.g (.int k n))=some [.g (.int k n)]:=bF rfl
theorem M6{b}:AV.cells (bQ b)=some [bQ b]:=bF rfl
theorem P4{a}:AV.cells (.g (.pointer a))=some [.g (.pointer a)]:=bF rfl
theorem P8{a n c}:AV.cells (.g (.slice a n c))=some [.g (.slice a n c)]:=bF rfl
theorem PN:AV.cells (.g .nilFunc)=some [.g .nilFunc]:=bF rfl
theorem TL{b}:AV.cells (.mp b)=some [.mp b]:=bF rfl
theorem Q8{f c}:AV.cells (.fn f c)=some [.fn f c]:=bF rfl
theorem Nv{t v}:AV.cells (.kB t v)=some [.kB t v]:=bF rfl
theorem Tc{cs}:AV.cells (.fp cs)=some [.fp cs]:=bF rfl
attribute[go_sem] O3 NI TQ MU M6 P4 P8 PN TL Q8 Nv Tc
theorem JB{l:ba}:AV.cy (bR l)=true:=bF rfl
theorem MY:AV.cy (.fz n cs)=true:=bF rfl
theorem Ol{o c:Nat}:AV.cy (.sl b o n c)=true:=bF rfl
theorem Kz{o:Nat}:AV.cy (.ptr b o)=true:=bF rfl
theorem Ja{k:IntKind}{n:Int}:AV.cy (.g (.int k n))=true:=bF rfl
theorem JE{b:Bool}:AV.cy (bQ b)=true:=bF rfl
theorem OS{a n c}:AV.cy (.g (.slice a n c))=true:=bF rfl
theorem Oc{b c}:AV.cy (.fn b c)=true:=bF rfl
theorem Ky{t v}:AV.cy (.kB t v)=true:=bF rfl
theorem Oy{cs}:AV.cy (.fp cs)=true:=bF rfl
theorem ZK{e:TypeId}:yW P e=(dy P e).map λz=> .xa (.cells (z.map .g) e):=by unfold yW;cases dy P e<;>rfl
def Ko(z:Option (List Value))(fs:Option (List (Nat×Nat)))(ev:Operand->AV)(ps:List (Nat×Operand)):Option QR:=match z with
 |some z=>match fs with
  |some fs=>GK (fo (λi=>iW i fs) ev ps (z.map .g))
  |none=>none
 |none=>none
theorem W8{ev:Operand->AV}{ps:List (Nat×Operand)}(hu:vp P t=true):uo P ev t ps=Ko (dy P t) (fieldsOf P t) ev ps:=by
 unfold vp at hu;unfold uo Ko;cases dy P t with
 |none=>rfl
 |some z=>
  dsimp only;cases hd:P.underlying t with
  |none=>rw[hd]at hu;cases hu
  |some d=>
   rw[hd]at hu;cases d<;>first|(cases hu;done)|skip
   dsimp only;cases fieldsOf P t<;>rfl
theorem HO{z fs ev ps}:Ko (some z) (some fs) ev ps=GK (fo (λi=>iW i fs) ev ps (z.map .g)):=bF rfl
theorem OM:GK (some cs)=some (.val (.agg cs)):=bF rfl
def JS(r:Option (List AV))(F:List AV->Option (List AV)):Option (List AV):=match r with
 |some r=>F r
 |none=>none
theorem GL{r F}:JS (some r) F=F r:=bF rfl
theorem Kg{place ev cs}:fo place ev [] cs=some cs:=bF rfl
theorem H6{place ev cs}{x:Nat×Operand}{rest}:fo place ev (x::rest) cs=JS (apart (place x.1) (ev x.2).cells cs) (λr=>fo place ev rest r):=by rw[fo];unfold JS;cases apart (place x.1) (ev x.2).cells cs<;>rfl
theorem KJ{off:Nat}(h:vs.length=n):apart (some (off,n)) (some vs) cs=dJ off cs vs:=by simp[apart,h]
theorem Ey{e len cs}:fG e len (some cs)=some (.pS (.cells cs e) len len):=bF rfl
theorem ql{e:TypeId}{len:Nat}{z:List Value}{ev ps}(hu:P.underlying t=some (.slice e))(hs:cN P e=some sz)(hz:dy P e=some z)(h1:len*sz<=4096)(h2:z.length=sz):
 fy P ev t len ps=fG e len (fo (λi=>some (i*sz,sz)) ev ps (fK len (z.map .g))):=by
 simp[fy,hu,hs,hz,h1,h2]
theorem akW{ev ps}:fy prog ev 45 1 ps=fG 9 1 (fo (λi=>some (i*1,1)) ev ps [bR []]):=ql yv Pv tz9 bN rfl
theorem ag0{ev ps}:fy prog ev 45 2 ps=fG 9 2 (fo (λi=>some (i*1,1)) ev ps [bR [],bR []]):=ql yv Pv tz9 bN rfl
theorem ah1{ev ps}:fy prog ev 243 1 ps=fG 245 1 (fo (λi=>some (i*2,2)) ev ps [int 0,u64 0]):=ql vB pH AZ bN rfl
theorem acS{ev ps}:fy prog ev 243 2 ps=fG 245 2 (fo (λi=>some (i*2,2)) ev ps [int 0,u64 0,int 0,u64 0]):=ql vB pH AZ bN rfl
theorem anj{ev ps}:fy prog ev 46 1 ps=fG 5 1 (fo (λi=>some (i*1,1)) ev ps [u8 0]):=ql vP PC Vt bN rfl
theorem P5{n cs}:AV.cells (.fz n cs)=some [.fz n cs]:=bF rfl
attribute[go_sem] ZK W8 HO OM GL Kg H6 KJ Ey akW ag0 ah1 acS anj P5
theorem ajM{l:ba}:AV.g (.string ⟨l.toArray⟩)=bR l:=bF rfl
attribute[go_sem] ajM QI uE M3 JB MY Ol Kz Ja JE OS Oc Ky Oy List.all_cons List.all_nil
theorem amT:(n=n+(k+1))=False:=D8 ah
theorem ana:(n+(k+1)=n)=False:=D8 ah
theorem amb{a:Nat}:(n=n+(k+1)+a)=False:=D8 ah
theorem alA{a:Nat}:(n+(k+1)+a=n)=False:=D8 ah
theorem al5{a:Nat}:(n=n+(k+1)+a+b)=False:=D8 ah
theorem akN{a:Nat}:(n+(k+1)+a+b=n)=False:=D8 ah
theorem akf{a c:Nat}:(n=n+(k+1)+a+b+c)=False:=D8 ah
theorem bc0{a:Nat}:(n+a=n+b)=(a=b):=propext Nat.add_left_cancel_iff
attribute[go_sem] amT ana amb alA al5 akN akf bc0 gh
theorem aki:n<n+(k+1):=ah
theorem alC{a:Nat}:n<n+(k+1)+a:=ah
theorem akj{a:Nat}:n<n+(k+1)+a+b:=ah
theorem anl{a c:Nat}:n<n+(k+1)+a+b+c:=ah
attribute[go_sem] aki alC akj anl
def HG(w:Option Bool)(q:Option QR)(d:Option Tmp)(s:BT AV)(h:aG)(base i:Nat):Prop:=match w with
 |some true=>match q with
  |some q=>(match d with|some d=>ao s d=q.av (base+i)|none=>True)/\(match q.obj with|some ob=>au h (base+i)=some ob|none=>True)
  |none=>False
 |some false=>match d with|some d=>ao s d= .g undef|none=>True
 |none=>False
theorem adz{ops base i o s h}:tG P ops base i o s h=HG (dO ops s o) (dE P h (oZ s) o) o.dst s h base i:=bF rfl
theorem Qr{v d s h base i}:HG (some true) (some (.val v)) (some d) s h base i=(ao s d=v):=by simp[HG,QR.av,QR.obj]
theorem QM{q d s h base i}:HG (some false) q (some d) s h base i=(ao s d= .g undef):=bF rfl
attribute[go_sem] adz Qr QM and_true true_and and_self eq_self
variable{A B:List AV}{cap lo rX:Nat}
def Own{α:Type}(c:α->List AV)(e sz:Nat)(h:aG)(v:AV)(l:List α):Prop:=
 (v= .g (.slice none 0 0)/\l=[])\/∃(b cap:Nat) (A:List AV),v= .sl b 0 l.length cap/\au h b=some (.cells A e)/\l.length<=cap/\A.length=cap*sz/\A.take (l.length*sz)=l.flatMap c
def bZ:AV->Option Nat
 | .sl b _ _ _=>some b
 |_=>none
def In(lo hi:Nat)(v:AV):Prop:=∀b,bZ v=some b->lo<=b/\b<hi
def Frame(n:Nat)(v:AV)(h h':aG):Prop:=∀b,b<n->bZ v≠some b->au h' b=au h b
theorem Frame.refl{v:AV}:Frame n v h h:=λ_ _ _=>rfl
theorem Frame.set{c:Nat}{v:AV}{o:AO}(a:Frame n v h h')(hc:n<=c\/bZ v=some c):Frame n v h (aK h' c o):=λb hb cx=>by
 rw[aj];split
 .rename_i e;rcases hc with hc|hc
  .omega
  .rw[e]at cx;exact absurd hc cx
 .exact a b hb cx
theorem aH.frame{v:AV}(a:aH n h h'):Frame n v h h':=λb hb _=>a b hb
theorem Frame.same{hi:Nat}{v:AV}(a:Frame n v h h')(i:In lo hi v)(m:Nat)(h1:m<=lo)(h2:m<=n):aH m h h':=λb hb=>a b ah λe=>by have:=(i b e).1;omega
theorem In.nil{hi:Nat}{v:Value}:In lo hi (.g v):=λ_ e=>by cases e
theorem In.sl{lo hi b o l c:Nat}(h1:lo<=b)(h2:b<hi):In lo hi (.sl b o l c):=λ_ e=>by cases e;exact⟨h1,h2⟩
theorem In.le{hi jn:Nat}{v:AV}(i:In lo hi v)(h1:jn<=lo)(h2:hi<=rX):In jn rX v:=λb e=>by have:=i b e;omega
theorem PD{P Q:List α}{p:Nat}(h:P.length=p):(P++Q).drop p=Q:=by subst h;simp
theorem Jz{P Q:List α}{p:Nat}(h:P.length=p):(P++Q).take p=P:=by subst h;simp
theorem dr2{P Q R:List α}{p:Nat}(h:P.length+Q.length=p):(P++Q++R).drop p=R:=PD (by rw[aq];exact h)
theorem a39(l:List ba)(hl:l.length<65536)(h:aG)(nx:Nat):aA prog 39 [strs l] h nx λv h' nx'=>aH nx h h'/\In nx nx' v/\Own fH 9 1 h' v l:=by
 by_cases hn:(l.length==0)=false
 .refine aA.ac 1 T0 func39 ?_;have h1:¬(l.length<=0):=by simpa using hn
  have h2:∀o e,cK (aK h nx (.cells o e)) nx 0 0=some []:=λo e=>by rw[cr,aj,aw rfl,cB,fS,aS,pV]
  simp+decide-dsimp only[f39,go_sem,hn,hl,h1,h2];refine oa λcap gs hc hg=>?_;simp+decide-dsimp only[go_sem];exact⟨(aH.refl.set (an _)).set (bz _),.sl (bz _) (aW _),.inr ⟨_,cap,_,rfl,gl,hc,by simp only[aq,bc,zJ];exact hg,
   by rw[aB (by rw[zJ];exact an _),aD (by rw[zJ];exact an _)]⟩⟩
 .have:l=[]:=by cases l with
   |nil=>rfl
   |cons x l=>exact absurd rfl hn
  subst this;refine .empty ?_ ?_;.refine aA.ac 1 T0 func39 ?_;simp+decide-dsimp only[f39,go_sem];exact⟨.refl,.nil,.inl ⟨rfl,rfl⟩⟩
  .refine aA.ac 1 T0 func39 ?_;simp+decide-dsimp only[f39,go_sem];exact⟨aH.refl.set (an _),.sl (an _) (aW _),.inr ⟨nx,0,[],rfl,gl,an _,bL,rfl⟩⟩
def abO:Nat->cU:=λid=>if id=5 then[(z5,[],some 6),([],[],some 7),([],[],none)]else[]
theorem ajI(l:List ba)(hl:l.length<65536)(v:AV)(i:Nat)(hi:i<l.length)(h:aG)(nx:Nat)(ho:Own fH 9 1 h v l)(lB:In 0 nx v):
 aA prog 250 [v,int i,int (i+1:Nat)] h nx λv' h' nx'=>Frame nx v h h'/\bZ v'=bZ v/\Own fH 9 1 h' v' (l.eraseIdx i):=by
 rcases ho with⟨rfl,rfl⟩|⟨b,cap,A,rfl,hA,lX,bP,dL⟩;.simp at hi
 refine aA.ac 3 abO func250 ?_;have h1:i+1<=l.length:=hi;have h2:i<=i+1:=bz i;have h3:l.length<=l.length:=an _;have h4:¬((i:Int)=((i+1:Nat):Int)):=ah;have h5:i<=cap:=ah;have h6:l.length-(i+1)<65536:=ah;have cK:bC.cK h b (if cap=i+1 then 0 else(i+1)*1) ((l.length-(i+1))*1)=some ((l.drop (i+1)).flatMap fH):=by
  have hz:∀x,(fH x).length=1:=λ_=>rfl;have e1:(A.drop ((i+1)*1)).take ((l.length-(i+1))*1)=(l.drop (i+1)).flatMap fH:=by rw[<-dY hz,<-dL,fW,<-mn]
  rw[cr,hA,cB];have Gu:=aI 1 (show i+1<=cap from ah);have Qs:=aI 1 (show(i+1)+(l.length-(i+1))<=cap from ah);rw[bh]at Qs;split;.rename_i hc;have:l.length-(i+1)=0:=ah;rw[this,aT ah,eN,fS,aS,pV];rfl
  .rw[eF _ _ (by rw[bP];exact Gu),aS,bO _ _ (by rw[aC,bP];omega),e1]
 have hz:∀x,(fH x).length=1:=λ_=>rfl;have hp:dJ (i*1) A ((l.drop (i+1)).flatMap fH)=some (A.take (i*1)++(l.drop (i+1)).flatMap fH++A.drop (i*1+(l.length-(i+1))*1)):=by have e:=bT hz (l.drop (i+1));rw[aC]at e;rw[cp,e];rw[e,bP];have:i+(l.length-(i+1))<=cap:=ah;have:=aI 1 this;rw[bh]at this;exact this
 have tN:l.eraseIdx i=l.take i++l.drop (i+1):=iZ l i;have CC:(l.eraseIdx i).length=i+(l.length-(i+1)):=by rw[tN];simp;omega
 have ht:(l.take i).flatMap fH=A.take (i*1):=by rw[<-fg hz,<-dL,bf,bM (aI _ (dP hi))]
 by_cases h0:(l.length-(i+1)==0)=false
 .have h7:i+(l.length-(i+1))<=cap:=ah;have h8:i+(l.length-(i+1))<=l.length:=ah;have h9:¬(cap=i+(l.length-(i+1))):=ah;have Tb:l.length-(i+(l.length-(i+1)))=1:=ah;have Gu:=aI 1 (show i+(l.length-(i+1))+1<=cap from ah);have vA:(A.take (i*1)++(l.drop (i+1)).flatMap fH++A.drop (i*1+(l.length-(i+1))*1)).length=cap*1:=by simp only[aq,ax,aC,bT hz,bP];omega
  have BN:dJ ((i+(l.length-(i+1)))*1) (A.take (i*1)++(l.drop (i+1)).flatMap fH++A.drop (i*1+(l.length-(i+1))*1)) [bR []]=some _:=cp _ _ _ (by rw[vA];show _+1<=_;omega);simp+decide-dsimp only[f250,go_sem,abO,h0,h1,h2,h4,h5,h6,h7,h8,h9,Tb,lX,cK,hA,hp,BN];refine⟨((Frame.refl.set (.inr rfl)).set (.inr rfl)),rfl,.inr ⟨b,cap,_,by rw[CC],gl,by rw[CC];exact h7,?_,?_⟩⟩;.simp only[aq,ax,aC,bD,eB,bT hz,bP];omega
  .rw[CC,tN,cM,ht,ay,aB (by rw[ax,vA];omega),bf,df,ay,<-ay,aB (by simp only[aq,ax,aC,bT hz,bP];omega),aD (by simp only[aq,ax,aC,bT hz,bP];omega)]
 .have qP:l.length-(i+1)=0:=by simpa using h0
  have h7:i<=l.length:=ah;have h9:¬(cap=i):=ah;have Tb:l.length-i=1:=ah;have Gu:=aI 1 (show i+1<=cap from ah);have Cr:bC.cK h b (if cap=i+1 then 0 else(i+1)*1) 0=some []:=by have:=cK;rw[qP,eN]at this;rw[this,aT ah];rfl
  have BN:dJ (i*1) A [bR []]=some _:=cp _ _ _ (by rw[bP];show _+1<=_;omega);simp+decide-dsimp only[f250,go_sem,abO,qP,h1,h2,h4,h5,h7,h9,Tb,lX,Cr,hA,BN];refine⟨Frame.refl.set (.inr rfl),rfl,.inr ⟨b,cap,_,by rw[CC,qP];rfl,gl,by rw[CC];omega,?_,?_⟩⟩;.simp only[aq,ax,aC,bD,eB,bP];omega
  .rw[CC,tN,cM,ht,qP,aT (show l.length<=i+1 from ah),ay,dD,aB (by rw[ax,bP];omega),bf,df];simp
def Km:Nat->cU:=λid=>if id=11 then[(z7,[],some 8),([],[],none)]else if id=15 then[(z7,[],some 8),([],[],none)]else[]
def N8(h:aG)(nx:Nat)(v:AV)(l:List ba)(v':AV)(h':aG)(nx':Nat):Prop:=Frame nx v h h'/\(∀b,bZ v'=some b->bZ v=some b\/(nx<=b/\b<nx'))/\Own fH 9 1 h' v' l
theorem rB{l:List ba}{x:ba}(hi:i<=l.length)(dL:A.take (l.length*1)=l.flatMap fH)(g1:l.length+1<=cap)(g2:B.length=cap*1)(g3:B.take (i*1)=A.take (i*1))(g4:(B.drop (i*1)).take 1=fH x)
 (g5:(B.drop ((i+1)*1)).take ((l.length-i)*1)=(l.drop i).flatMap fH):Own fH 9 1 (aK h b (.cells B 9)) (.sl b 0 (l.length+1) cap) (l.take i++x::l.drop i):=by
 have hz:∀x,(fH x).length=1:=λ_=>rfl;have db:(l.take i).flatMap fH=A.take (i*1):=by rw[<-fg hz,<-dL,bf,bM (aI _ hi)]
 have hre:(l.take i++x::l.drop i).flatMap fH=A.take (i*1)++fH x++(l.drop i).flatMap fH:=by rw[cM,bG,db,ay]
 have vO:(l.take i++x::l.drop i).length=l.length+1:=fE;refine .inr ⟨b,cap,B,by rw[vO],gl,by rw[vO];exact g1,g2,?_⟩;have e1:(l.length+1)*1=i*1+(1+(l.length-i)*1):=by have:l.length+1=i+(1+(l.length-i)):=ah;rw[this,bh,bh,cP]
 rw[hre,vO,e1,jT,jT,g3,g4,lU];have e2:i*1+1=(i+1)*1:=by rw[bh,cP]
 rw[e2,g5,ay]
theorem Rx(x:ba)(b1:Nat)(h:aG)(nx:Nat)(hx:au h b1=some (.cells (fH x) 9)):aA prog 251 [.g (.slice none 0 0),int (0:Nat),.sl b1 0 1 1] h nx (N8 h nx (.g (.slice none 0 0)) [x]):=by
 have Hj:cK h b1 0 (1*1)=some (fH x):=by rw[cr,hx];rfl
 have kD:∀x,(fH x).all AV.cy=true:=λ_=>rfl;refine aA.ac 3 Km func251 ?_;simp+decide-dsimp only[f251,go_sem,Int.ofNat_zero,Hj];refine oa λcap gs hc hg=>?_;simp+decide-dsimp only[go_sem];refine⟨Frame.refl.set (.inl (an _)),λb e=> .inr ?_,.inr ⟨nx,cap,_,rfl,gl,hc,?_,?_⟩⟩;.injection e with e;omega
 .rw[aq,bc];exact hg
 .rw[show[x].length*1=(fH x).length from rfl,Jz rfl];exact(cD _).symm
theorem N6(l:List ba)(x:ba)(b1 b cap:Nat)(A:List AV)(h:aG)(nx:Nat)(hx:au h b1=some (.cells (fH x) 9))(hA:au h b=some (.cells A 9))(bP:A.length=cap*1)(dL:A.take (l.length*1)=l.flatMap fH)
 (hr:l.length+1<=cap):aA prog 251 [.sl b 0 l.length cap,int l.length,.sl b1 0 1 1] h nx (N8 h nx (.sl b 0 l.length cap) (l.take l.length++x::l.drop l.length)):=by
 have Hj:cK h b1 0 (1*1)=some (fH x):=by rw[cr,hx];rfl
 have kD:∀x,(fH x).all AV.cy=true:=λ_=>rfl;have hz:∀x,(fH x).length=1:=λ_=>rfl;have hmr:=aI 1 hr;have IK:(l.length+1)*1=l.length*1+1:=by rw[bh,cP]
 have hp:dJ (l.length*1) A (fH x)=some _:=cp _ _ _ (by rw[bP,hz];omega);refine aA.ac 3 Km func251 ?_;simp+decide-dsimp only[f251,go_sem,Hj,kD,hr,hA,hp];refine⟨Frame.refl.set (.inr rfl),λb e=> .inl e,rB (an _) dL hr ?_ ?_ ?_ ?_⟩;.simp only[aq,ax,aC,bP,hz];omega
 .rw[ay,aB (by rw[ax,bP];omega),bf,df]
 .rw[ay,cg (by rw[ax,bP];omega),aT (by rw[ax];omega),ch,aB (by rw[hz];exact an _),aD (by rw[hz];exact an _)]
 .rw[jM,eN,dv,jg];rfl
theorem N4(l:List ba)(hl:l.length+1<65536)(x:ba)(b1 b cap:Nat)(A:List AV)(h:aG)(nx:Nat)(hx:au h b1=some (.cells (fH x) 9))(hA:au h b=some (.cells A 9))(lX:l.length<=cap)(bP:A.length=cap*1)(dL:A.take (l.length*1)=l.flatMap fH)
 (hr:¬l.length+1<=cap):aA prog 251 [.sl b 0 l.length cap,int l.length,.sl b1 0 1 1] h nx (N8 h nx (.sl b 0 l.length cap) (l.take l.length++x::l.drop l.length)):=by
 have Hj:cK h b1 0 (1*1)=some (fH x):=by rw[cr,hx];rfl
 have kD:∀x,(fH x).all AV.cy=true:=λ_=>rfl;have hz:∀x,(fH x).length=1:=λ_=>rfl;have je:bC.cK h b 0 (l.length*1)=some (l.flatMap fH):=by rw[cr,hA,cB,fS,aS,bO _ _ (by rw[bP];exact aI _ lX),dL]
 refine aA.ac 3 Km func251 ?_;simp+decide-dsimp only[f251,go_sem,Hj,je,hr,hl];refine oa λrD gs hc hg=>?_;simp+decide-dsimp only[go_sem];have jL:(l.flatMap fH).length=l.length*1:=bT hz l;refine⟨Frame.refl.set (.inl (an _)),λb e=> .inr ?_,rB (an _) dL hc ?_ ?_ ?_ ?_⟩;.injection e with e;omega
 .simp only[aq,bc,hz,jL]at hg⊢;exact hg
 .rw[ay,aB (by rw[jL];exact an _),aD (by rw[jL];exact an _),dL]
 .rw[ay,<-jL,cg (an _),jg,ch,aB (by rw[hz];exact an _),aD (by rw[hz];exact an _)]
 .rw[jM,eN,dv,jg];rfl
theorem OC(l:List ba)(hl:l.length+1<65536)(i:Nat)(vZ:i<l.length)(x:ba)(b1 b cap:Nat)(A:List AV)(h:aG)(nx:Nat)(hb:¬(b1=b))(hx:au h b1=some (.cells (fH x) 9))(hA:au h b=some (.cells A 9))(bP:A.length=cap*1)(dL:A.take (l.length*1)=l.flatMap fH)
 (hr:l.length+1<=cap):aA prog 251 [.sl b 0 l.length cap,int i,.sl b1 0 1 1] h nx (N8 h nx (.sl b 0 l.length cap) (l.take i++x::l.drop i)):=by
 have kD:∀x,(fH x).all AV.cy=true:=λ_=>rfl;have hz:∀x,(fH x).length=1:=λ_=>rfl;have Rd:de (1*1) (fH x)=some (fH x):=rfl;have hi:i<=l.length:=dP vZ;have Ly:l.length+1<9223372036854775808:=ah;have RM:i+1<9223372036854775808:=ah;have e0:¬((i:Int)=(l.length:Int)):=ah;have qa:¬(cap<l.length+1):=ah;have ya:l.length+1-(i+1)=l.length-i:=ah;have wX:¬(cap=i):=ah;have Uo:¬(cap=i+1):=ah;have Eh:i<=l.length+1:=ah;have Df:i+1<=l.length+1:=ah;have QG:(l.length-i==0)=false:=fE;have uN:Nat.min 1 (l.length+1-i)=1:=by show min _ _=_;omega
 have yO:Nat.min (l.length+1-i) (l.length-i)=l.length-i:=by show min _ _=_;omega
 have hM:((l.drop i).flatMap fH).length=(l.length-i)*1:=by rw[bT hz,aC]
 have RI:(A.drop (i*1)).take ((l.length-i)*1)=(l.drop i).flatMap fH:=by rw[<-dY hz,<-dL,fW,<-mn]
 have hmr:=aI 1 hr;have hmn:i*1+(l.length-i)*1=l.length*1:=by rw[<-bh];congr 1;omega
 have Q4:(l.length+1)*1=l.length*1+1:=by rw[bh,cP]
 have Ip:(i+1)*1=i*1+1:=by rw[bh,cP]
 have Sm:(l.length+1-i)*1=(l.length-i)*1+1:=by rw[show l.length+1-i=(l.length-i)+1 from ah,bh,cP]
 have hl3:bC.cK h b (i*1) ((l.length+1-i)*1)=some ((A.drop (i*1)).take ((l.length+1-i)*1)):=by rw[cr,hA,cB,eF _ _ ah,aS,bO _ _ (by rw[aC,bP];omega)]
 have ht3:de ((l.length-i)*1) ((A.drop (i*1)).take ((l.length+1-i)*1))=some ((l.drop i).flatMap fH):=by rw[bO _ _ (by rw[ax,aC,bP];omega),bf,bM ah,RI]
 have Cz:dJ ((i+1)*1) A ((l.drop i).flatMap fH)=some _:=cp _ _ _ (by rw[hM,bP];omega);rw[hM]at Cz;have sC:(A.take ((i+1)*1)++(l.drop i).flatMap fH++A.drop ((i+1)*1+(l.length-i)*1)).length=cap*1:=by simp only[aq,ax,aC,hM,bP];omega
 generalize uf:A.take ((i+1)*1)++(l.drop i).flatMap fH++A.drop ((i+1)*1+(l.length-i)*1)=A1 at Cz sC;have BN:dJ (i*1) A1 (fH x)=some _:=cp _ _ _ (by rw[sC,hz];omega);have BF:∀o,bC.cK (aK h b o) b1 0 (1*1)=some (fH x):=λo=>by rw[cr,aj,ak hb,hx];rfl
 have I9:jl h b1=true:=by simp[jl,hx,AO.cells?,fH]
 have hv2:jl h b=true:=by
  unfold jl;simp only[hA,AO.cells?];cases A with
  |nil=>simp only[eB]at bP;omega
  |cons=>rfl
 refine aA.ac 3 Km func251 ?_;simp+decide-dsimp only[f251,go_sem,hi,e0,Ly,qa];simp+decide-dsimp only[go_sem,Km,hr,hb,RM,Eh,Df,wX,Uo,ya,I9,hv2];simp+decide-dsimp only[go_sem,Eh,hA,hl3,ht3,yO,QG,Cz,wX];simp+decide-dsimp only[go_sem,kD,BF,uN,Rd,BN];refine⟨(Frame.refl.set (.inr rfl)).set (.inr rfl),λb e=> .inl e,rB hi dL hr ?_ ?_ ?_ ?_⟩;.simp only[aq,ax,aC,sC,hz];omega
 .rw[ay,aB (by rw[ax,sC];omega),bf,df,<-uf,ay,aB (by rw[ax,bP];omega),bf,bM ah]
 .rw[ay,cg (by rw[ax,sC];omega),aT (by rw[ax];omega),ch,aB (by rw[hz];exact an _),aD (by rw[hz];exact an _)]
 .rw[dr2 (by rw[ax,sC,hz];omega),hz,<-Ip,<-uf,ay,PD (by rw[ax,bP];omega),Jz hM]
theorem Nk(l:List ba)(hl:l.length+1<65536)(i:Nat)(vZ:i<l.length)(x:ba)(b1 b cap:Nat)(A:List AV)(h:aG)(nx:Nat)(Jr:b<nx)(af6:b1<nx)(hx:au h b1=some (.cells (fH x) 9))(hA:au h b=some (.cells A 9))(lX:l.length<=cap)(bP:A.length=cap*1)(dL:A.take (l.length*1)=l.flatMap fH)
 (hr:¬l.length+1<=cap):aA prog 251 [.sl b 0 l.length cap,int i,.sl b1 0 1 1] h nx (N8 h nx (.sl b 0 l.length cap) (l.take i++x::l.drop i)):=by
 have kD:∀x,(fH x).all AV.cy=true:=λ_=>rfl;have hz:∀x,(fH x).length=1:=λ_=>rfl;have Rd:de (1*1) (fH x)=some (fH x):=rfl;have hi:i<=l.length:=dP vZ;have hic:i<=cap:=ah;have Ly:l.length+1<9223372036854775808:=ah;have RM:i+1<9223372036854775808:=ah;have e0:¬((i:Int)=(l.length:Int)):=ah;have qa:cap<l.length+1:=ah;have ya:l.length+1-(i+1)=l.length-i:=ah;have e1:i+(l.length+1-i)=l.length+1:=ah;have wX:¬(cap=i):=ah;have Eh:i<=l.length+1:=ah;have Df:i+1<=l.length+1:=ah;have QG:(l.length-i==0)=false:=fE;have Td:(l.length+1-i==0)=false:=fE;have Vj:l.length+1-i<65536:=ah;have uN:Nat.min 1 (l.length+1-i)=1:=by show min _ _=_;omega
 have yO:Nat.min (l.length-i) (l.length-i)=l.length-i:=df _;have hM:((l.drop i).flatMap fH).length=(l.length-i)*1:=by rw[bT hz,aC]
 have RI:(A.drop (i*1)).take ((l.length-i)*1)=(l.drop i).flatMap fH:=by rw[<-dY hz,<-dL,fW,<-mn]
 have hmi:=aI 1 hi;have hmc:=aI 1 lX;have hmn:i*1+(l.length-i)*1=l.length*1:=by rw[<-bh];congr 1;omega
 have Q4:(l.length+1)*1=l.length*1+1:=by rw[bh,cP]
 have Ip:(i+1)*1=i*1+1:=by rw[bh,cP]
 have Sm:(l.length+1-i)*1=(l.length-i)*1+1:=by rw[show l.length+1-i=(l.length-i)+1 from ah,bh,cP]
 have hl4:bC.cK h b 0 (i*1)=some (A.take (i*1)):=by rw[cr,hA,cB,fS,aS,bO _ _ ah]
 have hBl:(A.take (i*1)++fK (l.length+1-i) [bR []]).length=(l.length+1)*1:=by rw[aq,ax,ua];show _+_*1=_;omega
 refine aA.ac 3 Km func251 ?_;simp+decide-dsimp only[f251,go_sem,hi,e0,Ly,qa];simp+decide-dsimp only[go_sem,Eh,hic,Ly,Vj,Td,e1,hr,hl,hl4];refine oa λrD gs hc hg=>?_;rw[<-aq,hBl]at hg;have hci':¬(rD=i):=ah;have hci1':¬(rD=i+1):=ah;have DG:(A.take (i*1)++fK (l.length+1-i) [bR []]++gs.map AV.g).length=rD*1:=by rw[aq,hBl,bc];exact hg
 have hBt:(A.take (i*1)++fK (l.length+1-i) [bR []]++gs.map AV.g).take (i*1)=A.take (i*1):=by rw[ay,aB (by rw[ax];omega),bf,df]
 have hmc':=aI 1 hc;generalize hBe:A.take (i*1)++fK (l.length+1-i) [bR []]++gs.map AV.g=B at DG hBt;have Cz:dJ (i*1) B (fH x)=some _:=cp _ _ _ (by rw[DG,hz];omega);have sC:(B.take (i*1)++fH x++B.drop (i*1+(fH x).length)).length=rD*1:=by simp only[aq,ax,aC,hz,DG];omega
 generalize uf:B.take (i*1)++fH x++B.drop (i*1+(fH x).length)=A1 at Cz sC;have BN:dJ ((i+1)*1) A1 ((l.drop i).flatMap fH)=some _:=cp _ _ _ (by rw[hM,sC];omega);have BF:∀o,bC.cK (aK h nx o) b1 0 (1*1)=some (fH x):=λo=>by rw[cr,aj,ak ah,hx];rfl
 have hl5:∀o o',bC.cK (aK (aK h nx o) nx o') b (i*1) ((l.length-i)*1)=some ((l.drop i).flatMap fH):=λo o'=>by rw[cr,aj,ak ah,aj,ak ah,hA,cB,eF _ _ ah,aS,bO _ _ (by rw[aC];omega),RI]
 have ht5:de ((l.length-i)*1) ((l.drop i).flatMap fH)=some ((l.drop i).flatMap fH):=by rw[bO _ _ (by rw[hM];exact an _),aD (by rw[hM];exact an _)]
 simp+decide-dsimp only[go_sem,kD,Eh,hci',uN,BF,Rd,Cz];simp+decide-dsimp only[go_sem,Km,hi,Df,RM,wX,hci1',ya,yO,QG,hl5,ht5,BN];refine⟨Frame.set (Frame.set (Frame.set Frame.refl ?_) ?_) ?_,λb e=> .inr ?_,rB hi dL hc ?_ ?_ ?_ ?_⟩;.exact .inl (an _)
 .exact .inl (an _)
 .exact .inl (an _)
 .injection e with e;omega
 .simp only[aq,ax,aC,sC,hM];omega
 .rw[ay,aB (by rw[ax,sC];omega),bf,bM ah,<-uf,ay,aB (by rw[ax,DG];omega),bf,df,hBt]
 .have V0:A1.take ((i+1)*1)=B.take (i*1)++fH x:=by rw[<-uf];exact Jz (by rw[aq,ax,DG,hz];omega)
  rw[V0,ay,ay,PD (by rw[ax,DG];omega),Jz (hz x)]
 .rw[ay,PD (by rw[ax,sC];omega),Jz hM]
theorem acY(l:List ba)(hl:l.length+1<65536)(v:AV)(i:Nat)(hi:i<=l.length)(x:ba)(b1:Nat)(h:aG)(nx:Nat)(ho:Own fH 9 1 h v l)(lB:In 0 nx v)
 (JX:b1<nx) (cx:bZ v≠some b1) (hx:au h b1=some (.cells (fH x) 9)):
 aA prog 251 [v,int i,.sl b1 0 1 1] h nx (N8 h nx v (l.take i++x::l.drop i)):=by
 rcases ho with⟨rfl,rfl⟩|⟨b,cap,A,rfl,hA,lX,bP,dL⟩
 .have:i=0:=by simpa using hi
  subst this;exact Rx x b1 h nx hx
 have Jr:b<nx:=(lB b rfl).2;have hb:¬(b1=b):=λe=>cx (by rw[e];rfl);by_cases HB:i=l.length
 .subst HB;by_cases hr:l.length+1<=cap;.exact N6 l x b1 b cap A h nx hx hA bP dL hr
  .exact N4 l hl x b1 b cap A h nx hx hA lX bP dL hr
 .by_cases hr:l.length+1<=cap;.exact OC l hl i ah x b1 b cap A h nx hb hx hA bP dL hr
  .exact Nk l hl i ah x b1 b cap A h nx Jr JX hx hA lX bP dL hr
end
end bC
end Go.Proofs.YtonnifoeokagjaaGreat
