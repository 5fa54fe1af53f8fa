/- The theorem quiet_holds of OrdersQuiet: part 6 of its proof; no conditions. -/
import Derived.Test.YtonnifoeokagjaaGreatF05
import Derived.Test.YtonnifoeokagjaaGreatProg
import Derived.KernelRfl
namespace Go.Proofs.YtonnifoeokagjaaGreat
set_option linter.all false
set_option maxRecDepth 8000
open Go Go.RowKit
open Option renaming some->J,none->B
open Bool renaming true->M,false->R
open List renaming length->O
open Tryz
open Nat(reduceAdd reduceMul)
namespace br
noncomputable section
def xt(f:FuncId):Option Ext:=
 if f==145 then J .cmp
 else if f==126 then J (.load (.int .u64))
 else if f==138 then J (.load (.int .u32))
 else if f==122 then J (.load .ptr)
 else if f==135 then J (.cas (.int .u64))
 else if f==173 then J (.cas (.int .i32))
 else if f==178 then J (.add .i32)
 else if f==156 then J .store
 else if f==121 then J .store
 else if f==172 then J .mark0
 else if f==174 then J .mark0
 else if f==175 then J .mark1
 else if f==177 then J .mark1
 else if f==255 then J (.O0 45)
 else if f==259 then J (.O0 243)
 else if f==372 then J (.O0 46)
 else B
def aaC:Extern.find f255=J (Extern.SlicesOverlaps.overlaps #[45,45] #[4]):=aK
def adf:Extern.findNext f255=B:=aK
def ZN:f255.body=B:=aK
def Vb:prog.underlying 45=J (.slice 9)/\∃n,cZ prog 9=J n:=⟨aK,1,aK⟩
def aal:Extern.find f259=J (Extern.SlicesOverlaps.overlaps #[243,243] #[4]):=aK
def YU:Extern.findNext f259=B:=aK
def adz:f259.body=B:=aK
def W4:prog.underlying 243=J (.slice 245)/\∃n,cZ prog 245=J n:=⟨aK,2,aK⟩
def ZJ:Extern.find f372=J (Extern.SlicesOverlaps.overlaps #[46,46] #[4]):=aK
def ZG:Extern.findNext f372=B:=aK
def abY:f372.body=B:=aK
def VB:prog.underlying 46=J (.slice 5)/\∃n,cZ prog 5=J n:=⟨aK,1,aK⟩
def Y5:Extern.find f145=J (Extern.BytealgCompare.compare):=aK
def ZK:Extern.findNext f145=B:=aK
def Yt:f145.body=B:=aK
def ac2:Extern.find f126=J (Extern.Atomic.loadT (.int .u64)):=aK
def aap:Extern.findNext f126=B:=aK
def YH:f126.body=B:=aK
def aa6:Extern.find f138=J (Extern.Atomic.loadT (.int .u32)):=aK
def Zv:Extern.findNext f138=B:=aK
def aaB:f138.body=B:=aK
def Ym:Extern.find f122=J (Extern.Atomic.loadT .ptr):=aK
def aaE:Extern.findNext f122=B:=aK
def acz:f122.body=B:=aK
def aa2:Extern.find f135=J (Extern.Atomic.casT (.int .u64)):=aK
def acx:Extern.findNext f135=B:=aK
def adB:f135.body=B:=aK
def abx:Extern.find f173=J (Extern.Atomic.casT (.int .i32)):=aK
def Ze:Extern.findNext f173=B:=aK
def ZB:f173.body=B:=aK
def aa7:Extern.find f178=J (Extern.Atomic.update (Op.intArith .add) .i32 M):=aK
def adh:Extern.findNext f178=B:=aK
def abE:f178.body=B:=aK
def acX:Extern.find f156=J (Extern.Atomic.storeT):=aK
def abX:Extern.findNext f156=B:=aK
def acm:f156.body=B:=aK
def Zy:Extern.find f121=J (Extern.Atomic.storeT):=aK
def ZE:Extern.findNext f121=B:=aK
def aaX:f121.body=B:=aK
def acL:Extern.find f172=J ((λ_=>do mark .disable;pure Extern.Race.none_)):=aK
def ado:Extern.findNext f172=B:=aK
def ZA:f172.body=B:=aK
def abT:Extern.find f174=J ((λ_=>do mark .enable;pure Extern.Race.none_)):=aK
def acY:Extern.findNext f174=B:=aK
def aab:f174.body=B:=aK
def abj:Extern.find f175=J (Extern.Race.marked .acquire):=aK
def abg:Extern.findNext f175=B:=aK
def ada:f175.body=B:=aK
def adw:Extern.find f177=J (Extern.Race.marked .releaseMerge):=aK
def Zp:Extern.findNext f177=B:=aK
def YA:f177.body=B:=aK
def QQ:prog.funcs.toList.all (λfn=> !(fn.name== "runtime.NumGoroutine"))=M:=aK
def ID:prog.follows .mixedOrders=M:=aK
def pk:PK prog xt where
 Ot f fn h:=by
  have W:(!(fn.name== "runtime.NumGoroutine"))=M:=fU.1 QQ fn (Array.mem_toList_iff.2 (Array.mem_of_getElem? h));cases D:(fn.name== "runtime.NumGoroutine")with
  |false=>rfl
  |true=>rw[D]at W;cases W
 ext f e h:=by
  unfold xt at h;by_cases hf:(f==145)=M
  .rw[au hf]at h;have hf:f=145:=Mf hf
   subst hf;cases h;exact⟨f145,_,func145,Yt,ZK,Y5,Z⟩
  rw[ak hf]at h;by_cases hf:(f==126)=M
  .rw[au hf]at h;have hf:f=126:=Mf hf
   subst hf;cases h;exact⟨f126,_,func126,YH,aap,ac2,Z⟩
  rw[ak hf]at h;by_cases hf:(f==138)=M
  .rw[au hf]at h;have hf:f=138:=Mf hf
   subst hf;cases h;exact⟨f138,_,func138,aaB,Zv,aa6,Z⟩
  rw[ak hf]at h;by_cases hf:(f==122)=M
  .rw[au hf]at h;have hf:f=122:=Mf hf
   subst hf;cases h;exact⟨f122,_,func122,acz,aaE,Ym,Z⟩
  rw[ak hf]at h;by_cases hf:(f==135)=M
  .rw[au hf]at h;have hf:f=135:=Mf hf
   subst hf;cases h;exact⟨f135,_,func135,adB,acx,aa2,Z⟩
  rw[ak hf]at h;by_cases hf:(f==173)=M
  .rw[au hf]at h;have hf:f=173:=Mf hf
   subst hf;cases h;exact⟨f173,_,func173,ZB,Ze,abx,Z⟩
  rw[ak hf]at h;by_cases hf:(f==178)=M
  .rw[au hf]at h;have hf:f=178:=Mf hf
   subst hf;cases h;exact⟨f178,_,func178,abE,adh,aa7,Z⟩
  rw[ak hf]at h;by_cases hf:(f==156)=M
  .rw[au hf]at h;have hf:f=156:=Mf hf
   subst hf;cases h;exact⟨f156,_,func156,acm,abX,acX,Z⟩
  rw[ak hf]at h;by_cases hf:(f==121)=M
  .rw[au hf]at h;have hf:f=121:=Mf hf
   subst hf;cases h;exact⟨f121,_,func121,aaX,ZE,Zy,Z⟩
  rw[ak hf]at h;by_cases hf:(f==172)=M
  .rw[au hf]at h;have hf:f=172:=Mf hf
   subst hf;cases h;exact⟨f172,_,func172,ZA,ado,acL,⟨_,Z⟩⟩
  rw[ak hf]at h;by_cases hf:(f==174)=M
  .rw[au hf]at h;have hf:f=174:=Mf hf
   subst hf;cases h;exact⟨f174,_,func174,aab,acY,abT,⟨_,Z⟩⟩
  rw[ak hf]at h;by_cases hf:(f==175)=M
  .rw[au hf]at h;have hf:f=175:=Mf hf
   subst hf;cases h;exact⟨f175,_,func175,ada,abg,abj,⟨_,Z⟩⟩
  rw[ak hf]at h;by_cases hf:(f==177)=M
  .rw[au hf]at h;have hf:f=177:=Mf hf
   subst hf;cases h;exact⟨f177,_,func177,YA,Zp,adw,⟨_,Z⟩⟩
  rw[ak hf]at h;by_cases hf:(f==255)=M
  .rw[au hf]at h;have hf:f=255:=Mf hf
   subst hf;cases h;exact⟨f255,_,func255,ZN,adf,aaC,⟨_,Z⟩⟩
  rw[ak hf]at h;by_cases hf:(f==259)=M
  .rw[au hf]at h;have hf:f=259:=Mf hf
   subst hf;cases h;exact⟨f259,_,func259,adz,YU,aal,⟨_,Z⟩⟩
  rw[ak hf]at h;by_cases hf:(f==372)=M
  .rw[au hf]at h;have hf:f=372:=Mf hf
   subst hf;cases h;exact⟨f372,_,func372,abY,ZG,ZJ,⟨_,Z⟩⟩
  rw[ak hf]at h;cases h
 mixed:=ID
 O0 f t h:=by
  unfold xt at h;by_cases hf:(f==145)=M;.rw[au hf]at h;cases h
  rw[ak hf]at h;by_cases hf:(f==126)=M;.rw[au hf]at h;cases h
  rw[ak hf]at h;by_cases hf:(f==138)=M;.rw[au hf]at h;cases h
  rw[ak hf]at h;by_cases hf:(f==122)=M;.rw[au hf]at h;cases h
  rw[ak hf]at h;by_cases hf:(f==135)=M;.rw[au hf]at h;cases h
  rw[ak hf]at h;by_cases hf:(f==173)=M;.rw[au hf]at h;cases h
  rw[ak hf]at h;by_cases hf:(f==178)=M;.rw[au hf]at h;cases h
  rw[ak hf]at h;by_cases hf:(f==156)=M;.rw[au hf]at h;cases h
  rw[ak hf]at h;by_cases hf:(f==121)=M;.rw[au hf]at h;cases h
  rw[ak hf]at h;by_cases hf:(f==172)=M;.rw[au hf]at h;cases h
  rw[ak hf]at h;by_cases hf:(f==174)=M;.rw[au hf]at h;cases h
  rw[ak hf]at h;by_cases hf:(f==175)=M;.rw[au hf]at h;cases h
  rw[ak hf]at h;by_cases hf:(f==177)=M;.rw[au hf]at h;cases h
  rw[ak hf]at h;by_cases hf:(f==255)=M;.rw[au hf]at h;injection h with h;cases h;exact⟨_,_,Vb.1,Vb.2.choose_spec⟩
  rw[ak hf]at h;by_cases hf:(f==259)=M;.rw[au hf]at h;injection h with h;cases h;exact⟨_,_,W4.1,W4.2.choose_spec⟩
  rw[ak hf]at h;by_cases hf:(f==372)=M;.rw[au hf]at h;injection h with h;cases h;exact⟨_,_,VB.1,VB.2.choose_spec⟩
  rw[ak hf]at h;cases h
variable{m:Nat}{t:TypeId}{α:Type}
def xD(P:Program)(t:TypeId):Bool:=match P.underlying t with|some (.struct _)=>M|_=>R
def tb1:lO prog 1=J 8:=aK
def tv1:nE prog 1=J (.nilFunc):=aK
def tv2:nE prog 2=J (.int .i64 0):=aK
def ts3:cZ prog 3=J 1:=aK
def Fy:prog.underlying 3=J (.int .i64):=aK
def tz3:dS prog 3=J [.int .i64 0]:=aK
def ts4:cZ prog 4=J 1:=aK
def tb4:lO prog 4=J 1:=aK
def tu4:prog.underlying 4=J (.bool):=aK
def tz4:dS prog 4=J [.bool R]:=aK
def SK:cZ prog 5=J 1:=aK
def tb5:lO prog 5=J 1:=aK
def Yj:prog.underlying 5=J (.int .u8):=aK
def tz5:dS prog 5=J [.int .u8 0]:=aK
def SL:cZ prog 9=J 1:=aK
def tb9:lO prog 9=J 16:=aK
def PY:prog.underlying 9=J (.string):=aK
def tz9:dS prog 9=J [.string ⟨#[]⟩]:=aK
def afP:prog.underlying 25=J (.pointer 103):=aK
def aqK:prog.underlying 29=J (.pointer 65):=aK
def aqr:prog.underlying 30=J (.pointer 96):=aK
def apI:prog.underlying 31=J (.pointer 137):=aK
def aja:cZ prog 32=J 1:=aK
def ML:prog.underlying 32=J (.slice 78):=aK
def ajQ:dS prog 32=J [.slice B 0 0]:=aK
def aan:prog.underlying 33=J (.slice 129):=aK
def apR:dS prog 35=J [.pointer B,.pointer B,.pointer B,.slice B 0 0,.slice B 0 0,.slice B 0 0,.bool R,.int .i64 0]:=aK
def agk:aR prog 35 0=J 0:=aK
def agS:aR prog 35 1=J 1:=aK
def agO:aR prog 35 2=J 2:=aK
def agf:aR prog 35 3=J 3:=aK
def agE:aR prog 35 5=J 5:=aK
def afT:aR prog 35 7=J 7:=aK
def anK:fieldsOf prog 35=J [(0,1),(1,1),(2,1),(3,1),(4,1),(5,1),(6,1),(7,1)]:=aK
def alx:prog.underlying 38=J (.slice 107):=aK
def aqk:cZ prog 40=J 7:=aK
def ap5:dS prog 40=J [.int .u8 0,.string ⟨#[]⟩,.string ⟨#[]⟩,.string ⟨#[]⟩,.bool R,.bool R,.slice B 0 0]:=aK
def agW:aR prog 40 0=J 0:=aK
def afU:aR prog 40 1=J 1:=aK
def afJ:aR prog 40 2=J 2:=aK
def afG:aR prog 40 3=J 3:=aK
def agq:aR prog 40 4=J 4:=aK
def afm:aR prog 40 6=J 6:=aK
def aoK:fieldsOf prog 40=J [(0,1),(1,1),(2,1),(3,1),(4,1),(5,1),(6,1)]:=aK
def aoi:cZ prog 42=J 10:=aK
def aq4:dS prog 42=J [.int .u8 0,.int .i64 0,.int .i64 0,.int .u8 0,.string ⟨#[]⟩,.string ⟨#[]⟩,.string ⟨#[]⟩,.bool R,.bool R,.slice B 0 0]:=aK
def ae0:aR prog 42 0=J 0:=aK
def ahr:aR prog 42 1=J 1:=aK
def agt:aR prog 42 2=J 2:=aK
def agN:aR prog 42 3=J 3:=aK
def amN:cZ prog 45=J 1:=aK
def Ad:prog.underlying 45=J (.slice 9):=aK
def akC:dS prog 45=J [.slice B 0 0]:=aK
def yz:prog.underlying 46=J (.slice 5):=aK
def an3:dS prog 48=J [.int .i64 0,.int .i64 0,.slice B 0 0,.slice B 0 0]:=aK
def agH:aR prog 48 0=J 0:=aK
def af8:aR prog 48 1=J 1:=aK
def aff:aR prog 48 2=J 2:=aK
def afc:aR prog 48 3=J 3:=aK
def aq2:dS prog 50=J [.int .i64 0,.int .i64 0,.slice B 0 0,.slice B 0 0]:=aK
def agx:aR prog 50 0=J 0:=aK
def aeM:aR prog 50 1=J 1:=aK
def afb:aR prog 50 2=J 2:=aK
def agu:aR prog 50 3=J 3:=aK
def afF:prog.underlying 51=J (.slice 40):=aK
def aqI:prog.underlying 62=J (.pointer 201):=aK
def ao9:prog.underlying 63=J (.pointer 191):=aK
def apm:dS prog 65=J [.pointer B,.pointer B]:=aK
def ag2:aR prog 65 0=J 0:=aK
def ahR:aR prog 65 1=J 1:=aK
def afQ:prog.underlying 67=J (.slice 42):=aK
def afR:prog.underlying 68=J (.slice 88):=aK
def aeJ:prog.underlying 70=J (.pointer 182):=aK
def ajs:cZ prog 71=J 1:=aK
def akh:lO prog 71=J 8:=aK
def Nl:prog.underlying 71=J (.int .u64):=aK
def ajJ:dS prog 71=J [.int .u64 0]:=aK
def Nc:cZ prog 78=J 1:=aK
def adk:lO prog 78=J 8:=aK
def anZ:prog.underlying 78=J (.pointer 160):=aK
def Wx:dS prog 78=J [.pointer B]:=aK
def apD:prog.underlying 82=J (.pointer 175):=aK
def TC:cZ prog 88=J 2:=aK
def akz:lO prog 88=J 32:=aK
def ahp:dS prog 88=J [.string ⟨#[]⟩,.string ⟨#[]⟩]:=aK
def agj:aR prog 88 0=J 0:=aK
def aia:nE prog 90=J (.nilFunc):=aK
def ahf:prog.underlying 92=J (.map 5 90):=aK
def aoX:prog.underlying 94=J (.slice 97):=aK
def apl:dS prog 96=J [.slice B 0 0,.int .i64 0,.int .i64 0,.bool R,.bool R]:=aK
def agT:aR prog 96 0=J 0:=aK
def afs:aR prog 96 3=J 3:=aK
def afD:aR prog 96 4=J 4:=aK
def aru:fieldsOf prog 96=J [(0,1),(1,1),(2,1),(3,1),(4,1)]:=aK
def adE:aR prog 103 0=J 0:=aK
def YB:aR prog 103 2=J 2:=aK
def Z6:aR prog 103 3=J 6:=aK
def YO:aR prog 103 4=J 7:=aK
def acI:aR prog 103 5=J 8:=aK
def Ue:aR prog 103 10=J 13:=aK
def UC:aR prog 103 12=J 15:=aK
def ant:cZ prog 107=J 3:=aK
def Z7:aR prog 107 0=J 0:=aK
def YF:aR prog 107 1=J 1:=aK
def anf:prog.underlying 121=J (.pointer 157):=aK
def ajA:dS prog 125=J [.int .i64 0,.bool R,.string ⟨#[]⟩,.string ⟨#[]⟩]:=aK
def abz:aR prog 125 0=J 0:=aK
def ZL:aR prog 125 1=J 1:=aK
def Om:cZ prog 129=J 13:=aK
def ad8:lO prog 129=J 152:=aK
def amr:fieldsOf prog 129=J [(0,1),(1,1),(2,7),(9,4)]:=aK
def aeh:prog.underlying 134=J (.slice 71):=aK
def aef:prog.underlying 135=J (.slice 4):=aK
def ajx:dS prog 137=J [.slice B 0 0,.slice B 0 0,.int .i64 0]:=aK
def ac6:aR prog 137 0=J 0:=aK
def aad:aR prog 137 1=J 1:=aK
def ZY:aR prog 137 2=J 2:=aK
def Tu:prog.underlying 138=J (.pointer 141):=aK
def Xk:cZ prog 141=J 2:=aK
def akX:dS prog 141=J [.pointer B,.int .u64 0]:=aK
def Zc:aR prog 141 0=J 0:=aK
def Yo:aR prog 141 1=J 1:=aK
def adV:prog.underlying 142=J (.slice 3):=aK
def Zo:aR prog 155 2=J 0:=aK
def aca:aR prog 157 0=J 0:=aK
def akB:dS prog 160=J [.string ⟨#[]⟩,.string ⟨#[]⟩,.bool R,.pointer B,.int .u64 0,.nilFunc,.int .i64 0,.int .i64 0]:=aK
def Y9:aR prog 160 0=J 0:=aK
def Yr:aR prog 160 1=J 1:=aK
def abM:aR prog 160 2=J 2:=aK
def ZT:aR prog 160 3=J 3:=aK
def acV:aR prog 160 4=J 4:=aK
def abc:aR prog 160 5=J 5:=aK
def Y4:aR prog 160 7=J 7:=aK
def aks:fieldsOf prog 160=J [(0,1),(1,1),(2,1),(3,1),(4,1),(5,1),(6,1),(7,1)]:=aK
def ab':aR prog 167 1=J 0:=aK
def aer:cZ prog 169=J 2:=aK
def YS:aR prog 169 0=J 0:=aK
def ZU:aR prog 171 1=J 0:=aK
def aci:aR prog 173 1=J 0:=aK
def acS:aR prog 173 2=J 1:=aK
def ajR:dS prog 175=J [.nilIface,.int .u8 0,.int .u32 0,.int .i32 0,.int .u32 0,.bool R]:=aK
def YL:aR prog 175 0=J 0:=aK
def acF:aR prog 175 1=J 1:=aK
def Z5:aR prog 175 3=J 5:=aK
def aj1:fieldsOf prog 175=J [(0,1),(1,1),(2,3),(5,1)]:=aK
def ank:dS prog 182=J [.slice B 0 0,.slice B 0 0]:=aK
def Z8:aR prog 182 0=J 0:=aK
def Yz:aR prog 182 1=J 1:=aK
def adZ:prog.underlying 188=J (.map 3 71):=aK
def aem:prog.underlying 189=J (.slice 205):=aK
def aid:dS prog 191=J [.map B,.slice B 0 0,.int .u64 0,.bool R]:=aK
def aar:aR prog 191 0=J 0:=aK
def Y0:aR prog 191 1=J 1:=aK
def aaD:aR prog 191 3=J 3:=aK
def Ov:prog.underlying 197=J (.unsafePointer):=aK
def Yn:aR prog 199 2=J 0:=aK
def al5:dS prog 201=J [.int .u32 0,.int .i32 0,.int .u32 0,.nilFunc,.pointer B]:=aK
def aaK:aR prog 201 0=J 0:=aK
def ZM:aR prog 201 1=J 3:=aK
def abr:aR prog 201 2=J 4:=aK
def aly:fieldsOf prog 201=J [(0,3),(3,1),(4,1)]:=aK
def aeC:cZ prog 205=J 2:=aK
def ad3:lO prog 205=J 16:=aK
def aed:dS prog 205=J [.nilFunc,.int .u64 0]:=aK
def amz:prog.underlying 212=J (.pointer 249):=aK
def amx:prog.underlying 215=J (.pointer 258):=aK
def ajh:prog.underlying 218=J (.pointer 273):=aK
def adR:prog.underlying 222=J (.slice 45):=aK
def adX:prog.underlying 224=J (.slice 32):=aK
def am9:prog.underlying 241=J (.pointer 289):=aK
def xQ:prog.underlying 243=J (.slice 245):=aK
def TU:zE prog 245=J M:=aK
def oE:cZ prog 245=J 2:=aK
def Uj:lO prog 245=J 16:=aK
def Ey:dS prog 245=J [.int .i64 0,.int .u64 0]:=aK
def Zq:aR prog 245 0=J 0:=aK
def aaY:aR prog 245 1=J 1:=aK
def ajt:cZ prog 247=J 8:=aK
def akP:dS prog 247=J [.bool R,.slice B 0 0,.slice B 0 0,.slice B 0 0,.string ⟨#[]⟩,.bool R,.int .i64 0,.int .u64 0]:=aK
def adj:aR prog 247 0=J 0:=aK
def acH:aR prog 247 1=J 1:=aK
def Zm:aR prog 247 2=J 2:=aK
def acE:aR prog 247 3=J 3:=aK
def ac3:aR prog 247 4=J 4:=aK
def YY:aR prog 247 5=J 5:=aK
def aah:aR prog 247 6=J 6:=aK
def ale:fieldsOf prog 247=J [(0,1),(1,1),(2,1),(3,1),(4,1),(5,1),(6,2)]:=aK
def aiZ:dS prog 249=J [.pointer B,.pointer B,.int .i64 0,.int .u64 0,.int .i64 0,.bool R]:=aK
def Yy:aR prog 249 0=J 0:=aK
def aae:aR prog 249 1=J 1:=aK
def aby:aR prog 249 2=J 2:=aK
def abL:aR prog 249 3=J 4:=aK
def acv:aR prog 249 4=J 5:=aK
def alH:fieldsOf prog 249=J [(0,1),(1,1),(2,2),(4,1),(5,1)]:=aK
def al8:prog.underlying 252=J (.pointer 297):=aK
def aiq:prog.underlying 254=J (.pointer 307):=aK
def alR:dS prog 256=J [.string ⟨#[]⟩,.string ⟨#[]⟩,.bool R,.pointer B]:=aK
def aao:aR prog 256 0=J 0:=aK
def acM:aR prog 256 1=J 1:=aK
def Za:aR prog 256 2=J 2:=aK
def ZI:aR prog 256 3=J 3:=aK
def akl:dS prog 258=J [.pointer B,.pointer B,.int .i64 0,.int .u64 0,.int .i64 0,.bool R]:=aK
def adF:aR prog 258 0=J 0:=aK
def adL:aR prog 258 1=J 1:=aK
def acq:aR prog 258 2=J 2:=aK
def Zi:aR prog 258 3=J 4:=aK
def acO:aR prog 258 4=J 5:=aK
def als:fieldsOf prog 258=J [(0,1),(1,1),(2,2),(4,1),(5,1)]:=aK
def alT:prog.underlying 261=J (.pointer 310):=aK
def amo:cZ prog 264=J 2:=aK
def akI:dS prog 264=J [.int .u64 0,.int .u8 0]:=aK
def aat:aR prog 264 0=J 0:=aK
def acJ:aR prog 264 1=J 1:=aK
def alV:cZ prog 266=J 7:=aK
def ans:dS prog 266=J [.int .u64 0,.int .u8 0,.string ⟨#[]⟩,.string ⟨#[]⟩,.bool R,.int .i64 0,.int .u64 0]:=aK
def adr:aR prog 266 0=J 0:=aK
def adx:aR prog 266 1=J 2:=aK
def ab0:aR prog 266 2=J 3:=aK
def YJ:aR prog 266 3=J 4:=aK
def abd:aR prog 266 4=J 5:=aK
def alb:fieldsOf prog 266=J [(0,2),(2,1),(3,1),(4,1),(5,2)]:=aK
def alN:prog.underlying 267=J (.array 15 266):=aK
def ajg:cZ prog 269=J 111:=aK
def abq:aR prog 269 0=J 0:=aK
def adH:aR prog 269 1=J 1:=aK
def abQ:aR prog 269 2=J 106:=aK
def aaH:aR prog 269 3=J 108:=aK
def YZ:aR prog 269 4=J 109:=aK
def am5:fieldsOf prog 269=J [(0,1),(1,105),(106,2),(108,1),(109,2)]:=aK
def akY:cZ prog 271=J 120:=aK
def aak:aR prog 271 0=J 0:=aK
def ZD:aR prog 271 1=J 1:=aK
def abW:aR prog 271 2=J 112:=aK
def amM:fieldsOf prog 271=J [(0,1),(1,111),(112,8)]:=aK
def amU:dS prog 273=J [.pointer B,.pointer B,.int .i64 0,.int .u64 0,.int .i64 0,.int .i64 0,.bool R]:=aK
def ab9:aR prog 273 0=J 0:=aK
def acw:aR prog 273 1=J 1:=aK
def acZ:aR prog 273 2=J 2:=aK
def adq:aR prog 273 3=J 4:=aK
def abZ:aR prog 273 4=J 5:=aK
def adG:aR prog 273 5=J 6:=aK
def ajG:fieldsOf prog 273=J [(0,1),(1,1),(2,2),(4,1),(5,1),(6,1)]:=aK
def U8:prog.underlying 286=J (.int .u64):=aK
def V4:prog.underlying 287=J (.map 3 292):=aK
def Zr:aR prog 289 0=J 0:=aK
def adm:aR prog 289 1=J 1:=aK
def ad4:nE prog 292=J (.pointer B):=aK
def al3:dS prog 294=J [.int .u64 0,.bool R,.slice B 0 0,.slice B 0 0,.slice B 0 0,.string ⟨#[]⟩,.bool R,.int .i64 0,.int .u64 0]:=aK
def aaW:aR prog 294 0=J 0:=aK
def Zt:aR prog 294 1=J 1:=aK
def aj4:fieldsOf prog 294=J [(0,1),(1,8)]:=aK
def NV:prog.underlying 295=J (.map 3 298):=aK
def abO:aR prog 297 0=J 0:=aK
def aaf:aR prog 297 1=J 1:=aK
def aeo:nE prog 298=J (.pointer B):=aK
def akn:dS prog 300=J [.int .u64 0,.string ⟨#[]⟩,.string ⟨#[]⟩,.bool R,.pointer B]:=aK
def acK:aR prog 300 0=J 0:=aK
def Zj:aR prog 300 1=J 1:=aK
def alU:fieldsOf prog 300=J [(0,1),(1,4)]:=aK
def WY:nE prog 301=J (.pointer B):=aK
def aiH:dS prog 303=J [.slice B 0 0,.slice B 0 0]:=aK
def ac0:aR prog 303 0=J 0:=aK
def aaw:aR prog 303 1=J 1:=aK
def amY:dS prog 305=J [.nilIface]:=aK
def amD:dS prog 307=J [.nilIface,.int .i64 0,.int .i64 0]:=aK
def aag:aR prog 307 0=J 0:=aK
def Z':aR prog 307 1=J 1:=aK
def aaa:aR prog 307 2=J 2:=aK
def Xm:prog.underlying 308=J (.map 3 332):=aK
def abt:aR prog 310 0=J 0:=aK
def aaq:aR prog 310 1=J 1:=aK
def ad5:nE prog 332=J (.pointer B):=aK
def adg:aR prog 334 0=J 0:=aK
def YG:aR prog 334 1=J 1:=aK
def aj':fieldsOf prog 334=J [(0,1),(1,120)]:=aK
def aei:prog.underlying 336=J (.pointer 169):=aK
def cb(m t:Nat):Bool:=Nat.ble (t+1) 512&&Nat.beq (Nat.land (Nat.shiftRight m t) 1) 1
def cls{f}{r:α}(h:((List.range 512).filter (cb m)).map f=((List.range 512).filter (cb m)).map λ_=>r){t}(ht:cb m t=M):f t=r:=by
 have K:t<512:=by unfold cb at ht;rw[aS]at ht;exact Nat.le_of_ble_eq_true ht.1
 exact List.map_inj_left.1 h t (cR.2 ⟨dQ.2 K,ht⟩)
def ty_1(h:cb 0x410000000000000000000000012008080000020500a00000080000038000008400040c000000000400440d0c0006043e420023a t=M):zE prog t=J R:=cls (f:=λt=>zE prog t) aK h
def ty_2(h:cb 0x410000000000000000000000012008080000020500a00000080000038000008400040c000000000400440d0c0006043e420023a t=M):cZ prog t=J 1:=cls (f:=λt=>cZ prog t) aK h
def ty_3(h:cb 0x8000000000000000000000000000000000000000000100000600100000000 t=M):dS prog t=J [.slice B 0 0]:=cls (f:=λt=>dS prog t) aK h
def ty_4(h:cb 0x2000000000200000010400000000000000000004000004892420002a50502a0000000000200804080010000220220000081010000020005010800000000 t=M):xD prog t=M:=cls (f:=λt=>xD prog t) aK h
def ty_5(h:cb 0x2000000000200000000400000000000000000000000000000000000a50100a0000000000000000000000000000020000000010000000001050000000000 t=M):zE prog t=J M:=cls (f:=λt=>zE prog t) aK h
def ty_6(h:cb 0x10000000000000000000000000000000020000000000000000001000000000000 t=M):cZ prog t=J 4:=cls (f:=λt=>cZ prog t) aK h
def ty_7(h:cb 0x10000000000000000800000000000000020000000000000000005000000000000 t=M):fieldsOf prog t=J [(0,1),(1,1),(2,1),(3,1)]:=cls (f:=λt=>fieldsOf prog t) aK h
def ty_8(h:cb 0x408202000001000020000000000000004000000000200000000000010000020000000000000000 t=M):fieldsOf prog t=J [(0,1),(1,1)]:=cls (f:=λt=>fieldsOf prog t) aK h
def ty_9(h:cb 0x1000000000000000000000000000080000000000000000000000000000000000000000020000000000000000000000000000000000 t=M):fieldsOf prog t=J [(0,1),(1,1),(2,1)]:=cls (f:=λt=>fieldsOf prog t) aK h
def ty_10(h:cb 0x400202000000000000000000000000000000000000000000000000000000000000000000000000 t=M):dS prog t=J [.pointer B,.map B]:=cls (f:=λt=>dS prog t) aK h
attribute[go_sem] tb1 tv1 tv2 ts3 Fy tz3 ts4 tb4 tu4 tz4 SK tb5 Yj tz5 SL tb9 PY tz9 afP aqK aqr apI aja ML ajQ aan apR agk agS agO agf agE afT anK alx aqk ap5 agW afU afJ afG agq afm aoK aoi aq4 ae0 ahr agt agN amN Ad akC yz an3 agH af8 aff afc aq2 agx aeM afb agu afF aqI ao9 apm ag2 ahR afQ afR aeJ ajs akh Nl ajJ Nc adk anZ Wx apD TC akz ahp agj aia ahf aoX apl agT afs afD aru adE YB Z6 YO acI Ue UC ant Z7 YF anf ajA abz ZL Om ad8 amr aeh aef ajx ac6 aad ZY Tu Xk akX Zc Yo adV Zo aca akB Y9 Yr abM ZT acV abc Y4 aks ab' aer YS ZU aci acS ajR YL acF Z5 aj1 ank Z8 Yz adZ aem aid aar Y0 aaD Ov Yn al5 aaK ZM abr aly aeC ad3 aed amz amx ajh adR adX am9 xQ TU oE Uj Ey Zq aaY ajt akP adj acH Zm acE ac3 YY aah ale aiZ Yy aae aby abL acv alH al8 aiq alR aao acM Za ZI akl adF adL acq Zi acO als alT amo akI aat acJ alV ans adr adx ab0 YJ abd alb alN ajg abq adH abQ aaH YZ am5 akY aak ZD abW amM amU ab9 acw acZ adq abZ adG ajG U8 V4 Zr adm ad4 al3 aaW Zt aj4 NV abO aaf aeo akn acK Zj alU WY aiH ac0 aaw amY amD aag Z' aaa Xm abt aaq ad5 adg YG aj' aei ty_1 ty_2 ty_3 ty_4 ty_5 ty_6 ty_7 ty_8 ty_9 ty_10
variable{P:Program}{args:List u}{f:FuncId}{h:aE}
def JL(P:Program)(xt:FuncId->Option Ext)(f:FuncId):Bool:=match xt f with|none=>(match P.funcs[f]? with|some fn=>fn.body.isSome|none=>R)|some _=>R
def zf{xt:FuncId->Option Ext}(D:JL P xt f=M):gg P xt h f args=J (.enter f args):=by
 unfold JL at D;unfold gg;split at D
 .rename_i L;simp only[L];split at D
  .rename_i fn hf;simp only[hf];cases hbo:fn.body with
   |none=>rw[hbo]at D;cases D
   |some c=>rfl
  .cases D
 .cases D
def gQ{xt:FuncId->Option Ext}{e}(L:xt f=J e):gg P xt h f args=dW h e args:=by unfold gg;simp only[L]
def ak0:gg prog xt h 121 args=dW h .store args:=gQ aK
def amJ:gg prog xt h 122 args=dW h (.load .ptr) args:=gQ aK
def ain:gg prog xt h 126 args=dW h (.load (.int .u64)) args:=gQ aK
def ajT:gg prog xt h 135 args=dW h (.cas (.int .u64)) args:=gQ aK
def akW:gg prog xt h 138 args=dW h (.load (.int .u32)) args:=gQ aK
def alZ:gg prog xt h 145 args=dW h .cmp args:=gQ aK
def am2:gg prog xt h 156 args=dW h .store args:=gQ aK
def amc:gg prog xt h 172 args=dW h .mark0 args:=gQ aK
def aiI:gg prog xt h 173 args=dW h (.cas (.int .i32)) args:=gQ aK
def aiu:gg prog xt h 174 args=dW h .mark0 args:=gQ aK
def anu:gg prog xt h 175 args=dW h .mark1 args:=gQ aK
def akx:gg prog xt h 177 args=dW h .mark1 args:=gQ aK
def al9:gg prog xt h 178 args=dW h (.add .i32) args:=gQ aK
def ali:gg prog xt h 255 args=dW h (.O0 45) args:=gQ aK
def aj2:gg prog xt h 259 args=dW h (.O0 243) args:=gQ aK
def alJ:gg prog xt h 372 args=dW h (.O0 46) args:=gQ aK
def okF(f:Nat):Bool:=decide (f<388)&& !([0,1,2,121,122,126,135,138,145,156,172,173,174,175,177,178,187,188,189,190,191,192,193,195,196,197,198,199,200,201,202,203,204,205,206,207,208,209,211,212,213,214,217,218,219,223,225,226,255,259,267,269,270,301,303,359,360,361,372,377,378,387]:List Nat).contains f
def ag6:(List.range 388).all (λf=>JL prog xt f|| !okF f)=M:=aK
def bo_(h:okF f=M):JL prog xt f=M:=by
 have K:f<388:=by unfold okF at h;rw[aS]at h;exact eN h.1
 have:=fU.1 ag6 f (dQ.2 K);rw[h,gL,Bool.or_false]at this;exact this
attribute[go_sem] bo_ zf ak0 amJ ain ajT akW alZ am2 amc aiI aiu anu akx al9 ali aj2 alJ
variable{nx':jT}{a:u}{i:Nat}{ops:Array Oper}
abbrev aY:=List UInt8
abbrev u64(n:Int):u:= .g (.int .u64 n)
abbrev u8(n:Int):u:= .g (.int .u8 n)
abbrev HO:u:= .g (.pointer B)
def Q6:eK [] 0 .nil= .nil:=bQ Z
def Rl:eK [a] 0 .nil=(sset .nil 0 a):=bQ Z
def QL{b}:eK [a,b] 0 .nil=(sset (sset .nil 0 a) 1 b):=bQ Z
def Qr{b c}:eK [a,b,c] 0 .nil=(sset (sset (sset .nil 0 a) 1 b) 2 c):=bQ Z
def RQ{b c d}:eK [a,b,c,d] 0 .nil=(sset (sset (sset (sset .nil 0 a) 1 b) 2 c) 3 d):=bQ Z
def Q9{b c d e}:eK [a,b,c,d,e] 0 .nil=(sset (sset (sset (sset (sset .nil 0 a) 1 b) 2 c) 3 d) 4 e):=bQ Z
def QM{b c d e f}:eK [a,b,c,d,e,f] 0 .nil=(sset (sset (sset (sset (sset (sset .nil 0 a) 1 b) 2 c) 3 d) 4 e) 5 f):=bQ Z
def Zd{ev:Operand->u}{d ty po af g x}:en P h ev ⟨d,.move x,ty,po,af,g⟩=J (.val (ev x)):=bQ Z
def Zn{x}:cH (.move x)=R:=bQ Z
def aa1{ev:Operand->u}{d ty po af g c a b}:en P h ev ⟨d,.pick c a b,ty,po,af,g⟩=Gd (ev c) (ev a) (ev b):=bQ Z
def abf{c a b}:cH (.pick c a b)=R:=bQ Z
def abJ{ev:Operand->u}{d ty po af g t a}:en P h ev ⟨d,.load t a,ty,po,af,g⟩=qv (wu P h t (ev a)):=bQ Z
def acR{t a}:cH (.load t a)=R:=bQ Z
def Jt{ev:Operand->u}{d ty po af g x}:en P h ev ⟨d,.nilCheck x,ty,po,af,g⟩=So (ev x):=bQ Z
def Kg{x}:cH (.nilCheck x)=R:=bQ Z
def HU{ev:Operand->u}{d ty po af g s x f}:en P h ev ⟨d,.fieldAddr s x f,ty,po,af,g⟩=Bb P s f (ev x):=bQ Z
def Hg{s x f}:cH (.fieldAddr s x f)=R:=bQ Z
def UQ{ev:Operand->u}{d ty po af g op t x y AV}:en P h ev ⟨d,.binOp op t x y AV,ty,po,af,g⟩=qv (dE P h op t x y (ev x) (ev y)):=bQ Z
def VD{op t x y AV}:cH (.binOp op t x y AV)=R:=bQ Z
def NF{ev:Operand->u}{d ty po af g x i}:en P h ev ⟨d,.extract x i,ty,po,af,g⟩=Q2 i (ev x):=bQ Z
def Mu{x i}:cH (.extract x i)=R:=bQ Z
def Il{ev:Operand->u}{d ty po af g t x i}:en P h ev ⟨d,.indexAddr t x i,ty,po,af,g⟩=Nt P t (ev x) (ev i):=bQ Z
def Iu{t x i}:cH (.indexAddr t x i)=R:=bQ Z
def ach{ev:Operand->u}{d ty po af g op t x}:en P h ev ⟨d,.unOp op t x,ty,po,af,g⟩=qUn P op (ev x):=bQ Z
def aa4{op t x}:cH (.unOp op t x)=R:=bQ Z
def Mq{ev:Operand->u}{d ty po af g s1 d1 x}:en P h ev ⟨d,.convert s1 d1 x,ty,po,af,g⟩=qv (nA P h s1 d1 (ev x)):=bQ Z
def MP{s1 d1 x}:cH (.convert s1 d1 x)=R:=bQ Z
def WI{ev:Operand->u}{d ty po af g t x i}:en P h ev ⟨d,.index t x i,ty,po,af,g⟩=so P t (ev x) (ev i):=bQ Z
def Us{t x i}:cH (.index t x i)=R:=bQ Z
def VL{ev:Operand->u}{d ty po af g t x lo H mx}:en P h ev ⟨d,.slice t x lo H mx,ty,po,af,g⟩=A0 P t (ev x) (lo.map ev) (H.map ev) (mx.map ev):=bQ Z
def Xb{t x lo H mx}:cH (.slice t x lo H mx)=R:=bQ Z
def asV{ev:Operand->u}{d ty po af g x AV t ok}:en P h ev ⟨d,.typeAssert x AV t ok,ty,po,af,g⟩=kH P (ev x) t ok:=bQ Z
def asR{x AV t ok}:cH (.typeAssert x AV t ok)=R:=bQ Z
def asM{ev:Operand->u}{d ty po af g t x}:en P h ev ⟨d,.makeInterface t x,ty,po,af,g⟩=mH P t (ev x):=bQ Z
def asL{t x}:cH (.makeInterface t x)=R:=bQ Z
def KF{ev:Operand->u}{d ty po af g fn fi ca}:en P h ev ⟨d,.makeFunc fn fi ca,ty,po,af,g⟩=qFn fn fi ca ev:=bQ Z
def Kc{fn fi ca}:cH (.makeFunc fn fi ca)=R:=bQ Z
def PW{ev:Operand->u}{d ty po af g t x i ok}:en P h ev ⟨d,.lookup t x i ok,ty,po,af,g⟩=qv (nS P h t (ev x) (ev i) ok):=bQ Z
def Uh{ev:Operand->u}{d ty po af g e}:en P h ev ⟨d,.alloc e,ty,po,af,g⟩=Ae P e:=bQ Z
def Uv{e}:cH (.alloc e)=R:=bQ Z
def agR{ev:Operand->u}{d ty po af g e x}:en P h ev ⟨d,.box e x,ty,po,af,g⟩=Tc e (ev x):=bQ Z
def ahu{e x}:cH (.box e x)=R:=bQ Z
def Vq{ev:Operand->u}{d ty po af g t ps}:en P h ev ⟨d,.build t ps,ty,po,af,g⟩=vW P ev t ps.toList:=bQ Z
def Wf{t ps}:cH (.build t ps)=R:=bQ Z
def asQ{ev:Operand->u}{d ty po af g t l ps}:en P h ev ⟨d,.buildSlice t l ps,ty,po,af,g⟩=gI P ev t l ps.toList:=bQ Z
def asS{t l ps}:cH (.buildSlice t l ps)=R:=bQ Z
def MJ{ev:Operand->u}{d ty po af g t r}:en P h ev ⟨d,.makeMap t r,ty,po,af,g⟩=WB P t (r.map ev):=bQ Z
def Nr{t r}:cH (.makeMap t r)=R:=bQ Z
def G6{ev:Operand->u}{d ty po af g t l c}:en P h ev ⟨d,.makeSlice t l c,ty,po,af,g⟩=sg P t (ev l) (ev c):=bQ Z
def G5{t l c}:cH (.makeSlice t l c)=R:=bQ Z
def ab5{ev:Operand->u}{d ty po af g c}:en P h ev ⟨d,.call c,ty,po,af,g⟩=wM P h ev c:=bQ Z
def Rw{xt:FuncId->Option Ext}{ev:Operand->u}{d ty po af g x}:pg P xt h ev ⟨d,.assign x,ty,po,af,g⟩=J (.val (ev x) h):=bQ Z
def Sk{x}:cH (.assign x)=M:=bQ Z
def Uz{xt:FuncId->Option Ext}{ev:Operand->u}{d ty po af g t a x}:pg P xt h ev ⟨d,.store t a x,ty,po,af,g⟩=vY P h t (ev a) (ev x):=bQ Z
def Vs{t a x}:cH (.store t a x)=M:=bQ Z
def Io{xt:FuncId->Option Ext}{ev:Operand->u}{d ty po af g t m k x}:pg P xt h ev ⟨d,.mapUpdate t m k x,ty,po,af,g⟩=mz (sv P h t (ev m) (ev k) (ev x)):=bQ Z
def RJ{xt:FuncId->Option Ext}{ev:Operand->u}{d ty po af g t m k x}:pg P xt h ev ⟨d,.insert t m k x,ty,po,af,g⟩=mz (sv P h t (ev m) (ev k) (ev x)):=bQ Z
def Ro{t m k x}:cH (.insert t m k x)=M:=bQ Z
def abN{xt:FuncId->Option Ext}{ev:Operand->u}{d ty po af g c}:pg P xt h ev ⟨d,.call c,ty,po,af,g⟩=vi P xt h ev c:=bQ Z
def XC{f ar ty}:cH (.call ⟨.value f,ar,ty⟩)=M:=bQ Z
def VO{r n ar ty}:cH (.call ⟨.invoke r n,ar,ty⟩)=M:=bQ Z
def Le{ar ty}:cH (.call ⟨.builtin .len,ar,ty⟩)=R:=bQ Z
def KU{ar ty}:cH (.call ⟨.builtin .cap,ar,ty⟩)=R:=bQ Z
def JY{ar ty}:cH (.call ⟨.builtin .min,ar,ty⟩)=R:=bQ Z
def Ke{ar ty}:cH (.call ⟨.builtin .max,ar,ty⟩)=R:=bQ Z
def asO{ar ty}:cH (.call ⟨.builtin .append,ar,ty⟩)=M:=bQ Z
def Ho{ar ty}:cH (.call ⟨.builtin .copy,ar,ty⟩)=M:=bQ Z
def asY{ar ty}:cH (.call ⟨.builtin .clear,ar,ty⟩)=M:=bQ Z
def VZ{xt:FuncId->Option Ext}{ev:Operand->u}{f ar ty}:vi P xt h ev ⟨.value f,ar,ty⟩=p8 P xt h (ev f) (ar.toList.map ev):=bQ Z
def Qk{xt:FuncId->Option Ext}{ev:Operand->u}{r n ar ty}:vi P xt h ev ⟨.invoke r n,ar,ty⟩=mQ P xt h n (ar.toList.map ev) (ev r):=bQ Z
def Qd{xt:FuncId->Option Ext}{ev:Operand->u}{a b ty}:vi P xt h ev ⟨.builtin .append,#[a,b],ty⟩=iJ P h ty (ev a) (ev b):=bQ Z
def ade{xt:FuncId->Option Ext}{ev:Operand->u}{a b ty}:vi P xt h ev ⟨.builtin .copy,#[a,b],ty⟩=rO P h ty (ev a) (ev b):=bQ Z
def Xe{xt:FuncId->Option Ext}{ev:Operand->u}{a ty}:vi P xt h ev ⟨.builtin .clear,#[a],ty⟩=sw P h ty (ev a):=bQ Z
def Ra{xt:FuncId->Option Ext}{ev:Operand->u}{a b ty}:vi P xt h ev ⟨.builtin .delete,#[a,b],ty⟩=xw P h ty (ev a) (ev b):=bQ Z
def aeL{ev:Operand->u}{a t}:wM P h ev ⟨.builtin .len,#[a],#[t]⟩=qv (JE P t h (ev a)):=bQ Z
def afx{ev:Operand->u}{a b ty}:wM P h ev ⟨.builtin .min,#[a,b],ty⟩=Xp P (ev a) (ev b):=bQ Z
def ahV{ev:Operand->u}{a b ty}:wM P h ev ⟨.builtin .max,#[a,b],ty⟩=Sh P (ev a) (ev b):=bQ Z
def acb{s:BT u}{t}:qw s (.tmp t)=X s t:=bQ Z
def RW{s:BT u}{v}:qw s (.const v)= .g v:=bQ Z
def SY{s:BT u}{f}:qw s (.func f)= .fn f []:=bQ Z
def ajV{xt:FuncId->Option Ext}{f cap args}:p8 P xt h (.fn f cap) args=gg P xt h f (args++cap):=bQ Z
def Qa{s:BT u}{d v}:iz (J d) s v=sset s d v:=bQ Z
def Qz{s:BT u}{v}:iz B s v=s:=bQ Z
def ace{v}:qv (J v)=J (.val v):=bQ Z
def abo{s:BT u}{d op ty po af}:eM ops s ⟨d,op,ty,po,af,B⟩=J M:=bQ Z
def AWv(v:u)(want:Bool):Option Bool:=match v with
 | .g (.bool b)=>J (b==want)
 | .g (.tuple _)=>J R
 |_=>B
def AWo(o:Option Oper)(s:BT u)(want:Bool):Option Bool:=match o with
 |some ⟨J d,_,_,_,_,_⟩=>AWv (X s d) want
 |_=>B
def abl{s:BT u}{d op ty po af j want}:eM ops s ⟨d,op,ty,po,af,J (j,want)⟩=AWo ops[j]? s want:=by
 unfold eM AWo AWv;dsimp only;cases ops[j]? with
 |none=>rfl
 |some o=>have⟨d,_,_,_,_,_⟩:=o;cases d<;>rfl
def TQ{s:BT u}{d op ty po af g want}:AWo (J ⟨J d,op,ty,po,af,g⟩) s want=AWv (X s d) want:=bQ Z
def Rt{want}:AWv (.g undef) want=J R:=bQ Z
def Rs{hl:BT u->aE->Nat->Prop}{s h Y}:jT.seq hl nx' .jg s h Y=hl s h Y:=bQ Z
def Xo{hl:BT u->aE->Nat->Prop}{s h Y}:jT.seq hl nx' .ret s h Y=nx' .ret s h Y:=bQ Z
def Uf{hl:BT u->aE->Nat->Prop}{id s h Y}:jT.seq hl nx' (.out id) s h Y=nx' (.out id) s h Y:=bQ Z
def anc{id s h Y}:jT.bT id nx' .jg s h Y=nx' .jg s h Y:=bQ Z
def abp{id s h Y}:jT.bT id nx' .ret s h Y=nx' .ret s h Y:=bQ Z
def aop{id Cg s h Y}:jT.bT id nx' (.out Cg) s h Y=if id=Cg then nx' .jg s h Y else nx' (.out Cg) s h Y:=bQ Z
def abU{l:List α}:(List.toArray l)[i]?=l[i]?:=bR
def W8{a:α}{l}:(a::l)[0]?=J a:=bQ Z
def XA{a:α}{l}:(a::l)[i+1]?=l[i]?:=bQ Z
attribute[go_sem↓] amZ ahy ah5 ahJ acP ahQ Ur abD UW RO abV abo abl abU W8 XA asq aso asr aaQ
attribute[go_sem] Zd Zn aa1 abf abJ acR Jt Kg HU Hg UQ VD NF Mu Il Iu ach aa4 Mq MP WI Us VL Xb asV asR asM asL KF Kc PW Uh Uv agR ahu Vq Wf asQ asS MJ Nr G6 G5 ab5 Rw Sk Uz Vs Io RJ Ro abN XC VO Le KU JY Ke asO Ho asY VZ Qk Qd ade Xe Ra aeL afx ahV acb RW SY ajV Qa Qz ace TQ Rt Rs Xo Uf anc abp aop
attribute[go_sem] asj asi asy asx asb asa aeX ZX adu aaj af1 HK ass pX Q6 Rl QL Qr RQ Q9 QM eW cB n7 cA cU cy Ed fI lC cz
 So Bb Q2 Tc aj QR.av AO.cells?
 asz aev af4 ZV ab7 aa3 asn asm
variable{h':u->aE->Nat->Prop}{b k Y:Nat}{rs:List ResultVar}{vs:List u}{β:Type}
section
variable{P:Program}
def cr(f:α->Sem β)(s:Sem α):bM P (s>>=f)=match bM P s with|some a=>bM P (f a)|none=>B:=by
 show bM P (Sem.bind s f)=_
 induction s with
 |pure a=>rfl
 |program k ih=>simp only[Sem.bind,bM];exact ih P
 |mark m k ih=>simp only[Sem.bind,bM];exact ih
 |_=>rfl
def cW(a:α):bM P (pure a:Sem α)=J a:=bQ Z
def iI{d:TypeDesc}(hu:P.underlying t=J d):bM P (underlying t)=J d:=by show bM P (match P.underlying t with|some d=>pure d|none=>_)=_;rw[hu];rfl
def wrap_i64{n}(W: -9223372036854775808<=n)(F:n<9223372036854775808):cO .i64 n=n:=by unfold cO TY;simp[W,F]
def mL{n}(W:0<=n)(F:n<18446744073709551616):cO .u64 n=n:=by rw[je];unfold IntKind.wrap;show(if(R&&_)=M then _ else n%(2^64:Int))=n;simp only[pS];show n%18446744073709551616=n;omega
def wrap_u8{n}(W:0<=n)(F:n<256):cO .u8 n=n:=by rw[je];unfold IntKind.wrap;show(if(R&&_)=M then _ else n%(2^8:Int))=n;simp only[pS];show n%256=n;omega
def wrap_add{a:Nat}(h:a+b<9223372036854775808):cO .i64 ((a:Int)+(b:Int))=((a+b:Nat):Int):=by rw[wrap_i64]<;>omega
def QU{a:Nat}(h:a+1<9223372036854775808):cO .i64 ((a:Int)+1)=((a+1:Nat):Int):=by rw[wrap_i64]<;>omega
def TM{a:Nat}(h:b<=a)(Q:a<9223372036854775808):cO .i64 ((a:Int)-(b:Int))=((a-b:Nat):Int):=by rw[wrap_i64]<;>omega
def Q7{a:Nat}(h:1<=a)(Q:a<9223372036854775808):cO .i64 ((a:Int)-1)=((a-1:Nat):Int):=by rw[wrap_i64]<;>omega
def rB{len}(h:k<len):pJ len (k:Int)=J k:=by show(if k<len then J k else B)=_;rw[au h]
def iF{H}(h:k<=H):nI (k:Int) H=J k:=by show(if k<=H then J k else B)=_;rw[au h]
def Wu(h a b):dW h .cmp [cg a,cg b]=J (.val (int (xJ a b)) h):=by show J (ER.val (.g (goInt (Extern.BytealgCompare.cmp ⟨a.toArray⟩ ⟨b.toArray⟩))) h)=_;rw[Yu]
def aba(l):(cg l).pV=J (.string ⟨l.toArray⟩):=bQ Z
def GR(hu:P.underlying t=J .string){l:aY}(h:k<O l):so P t (cg l) (int k)=J (.val (u8 ((l.getD k 0).toNat:Nat))):=by
 unfold so;simp only[aba,u.pV];have hg:(ByteArray.mk l.toArray)[k]?=J (l.getD k 0):=by
  have:(ByteArray.mk l.toArray)[k]?=(l.toArray)[k]?:=by simp only[getElem?_def];rfl
  rw[this];simp[aF h,List.getD]
 have:bM P (Instr.index t (.string ⟨l.toArray⟩) (.int .i64 k))=J (.int .u8 ((l.getD k 0).toNat:Nat)):=by unfold Instr.index;simp only[asIntOf,cr,cW,iI hu];rw[au U];simp only[oZ,hg,cW]
 rw[this]
def agV{b}:qUn P .not (bW b)=J (.val (bW !b)):=bQ Z
def ac4{k:IntKind}{m n}:Xp P (.g (.int k m)) (.g (.int k n))=J (.val (.g (.int k (if n<m then n else m)))):=bQ Z
def aco{k:IntKind}{m n}:Sh P (.g (.int k m)) (.g (.int k n))=(match bM P (Builtin.max2 (.int k m) (.int k n))with|some r=>J (.val (.g r))|none=>B):=bQ Z
def Ka(l:aY)(a b:Nat):(ByteArray.mk l.toArray).extract a b=⟨((l.drop a).take (b-a)).toArray⟩:=by
 have:((ByteArray.mk l.toArray).extract a b).data=l.toArray.extract a b:=by simp[ByteArray.data_extract]
 apply ByteArray.ext;rw[this];simp[List.extract]
def Li{y}{c:BoundsCode}(h:k<=y):bM P (Instr.sliceBound (.int .i64 k) y c)=J k:=by unfold Instr.sliceBound;simp only[asIntOf,cr,cW];rw[au U];simp[cW]
def Si{sl len a lo H}(ha:lo=B/\a=0\/lo=J (.int .i64 a))(D:H=B/\b=len\/H=J (.int .i64 b))(W:a<=b)(F:b<=len):
 bM P (Instr.sliceBounds sl len len lo H B)=J (a,b,len):=by
 rcases ha with⟨rfl,rfl⟩|rfl<;>rcases D with⟨rfl,rfl⟩|rfl<;>unfold Instr.sliceBounds<;>simp only[cr,cW,Li W,Li F]
def Bj(hu:P.underlying t=J .string){l:aY}{lo H:Option u}{a:Nat}(ha:lo=B/\a=0\/lo=J (int a))(D:H=B/\b=O l\/H=J (int b))(W:a<=b)(F:b<=O l):
 fW P t (cg l) lo H=J (cg ((l.drop a).take (b-a))):=by
 show slG P t (.string ⟨l.toArray⟩) lo H=_;have G:(ByteArray.mk l.toArray).size=O l:=by simp[ByteArray.size]
 have key:∀lo H:Option Value,(lo=B/\a=0\/lo=J (.int .i64 a))->(H=B/\b=O l\/H=J (.int .i64 b))->
  bM P (Instr.sliceAt t (.string ⟨l.toArray⟩) lo H B)=J (.string ⟨((l.drop a).take (b-a)).toArray⟩):=by
  intro lo H ha D;unfold Instr.sliceAt Instr.slice;simp only[cr,iI hu,G,oa,du,cU,Si ha D W F,cW,Ka]
 unfold slG;rcases ha with⟨rfl,rfl⟩|rfl<;>rcases D with⟨rfl,rfl⟩|rfl<;>simp only[UJ,u.pV]
 .rw[key B B (.inl ⟨Z,Z⟩) (.inl ⟨Z,Z⟩)];rfl
 .rw[key B _ (.inl ⟨Z,Z⟩) (.inr Z)];rfl
 .rw[key _ B (.inr Z) (.inl ⟨Z,Z⟩)];rfl
 .rw[key _ _ (.inr Z) (.inr Z)];rfl
def XH(r:Option (List u))(h':u->aE->Nat->Prop)(h:aE)(Y:Nat)(_:Kp h'):Prop:=match r with|some vs=>h' (one vs) h Y|none=>False
def asu{k}:XH (J vs) h' h Y k=h' (one vs) h Y:=bQ Z
def asw{s:BT u}:Fin P rs h' .ret s h Y=XH (eW P h s rs) h' h Y .mk:=by unfold Fin XH;cases eW P h s rs<;>simp
def asv{s:BT u}:Fin P rs h' .jg s h Y=XH (eW P h s rs) h' h Y .mk:=by unfold Fin XH;cases eW P h s rs<;>simp
def adK{v}:one [v]=v:=bQ Z
def aaZ{AV v}:one [AV,v]= .dY [AV,v]:=bQ Z
def QS{AV v w}:one [AV,v,w]= .dY [AV,v,w]:=bQ Z
def Vu{AV v w x}:one [AV,v,w,x]= .dY [AV,v,w,x]:=bQ Z
def UI:one []= .dY []:=bQ Z
attribute[go_sem] asw asv asu adK aaZ QS Vu UI
attribute[go_sem] wrap_add QU TM Q7 rB iF Wu GR agV ac4 Bj YK abS ac' aaT vf Gd A0
end
variable{n:Nat}
def eY{α:Type}:∀(n:Nat) (l:List α),n<=O l->dV n l=J (l.drop n)
 |0,_,_=>rfl
 |n+1,[],h=>by simp at h
 |n+1,_::l,h=>by show dV n l=_;rw[eY n l (Mf h)];rfl
def bZ{α:Type}:∀(n:Nat) (l:List α),n<=O l->dC n l=J (l.take n)
 |0,_,_=>by simp;rfl
 |n+1,[],h=>by simp at h
 |n+1,a::l,h=>by show Option.rec (motive:=λ_=>Option (List α)) B (λr=>J (a::r)) (dC n l)=_;rw[bZ n l (Mf h)];rfl
def cG{α:Type}:∀(n:Nat) (l vs:List α),n+O vs<=O l->eG n l vs=J (l.take n++vs++l.drop (n+O vs))
 |0,[],[],_=>rfl
 |0,_::_,[],_=>by simp;rfl
 |0,[],_::_,h=>by simp at h
 |0,a::l,v::vs,h=>by show Option.rec (motive:=λ_=>Option (List α)) B (λr=>J (v::r)) (eG 0 l vs)=_;rw[cG 0 l vs (Mf h)];simp
 |n+1,[],vs,h=>by simp at h
 |n+1,a::l,vs,h=>by show Option.rec (motive:=λ_=>Option (List α)) B (λr=>J (a::r)) (eG n l vs)=_;rw[cG n l vs (by simp at h;omega)];simp[Nat.add_right_comm n 1]
def cj{α β:Type}{c:α->List β}{n}(A:∀x,O (c x)=n):∀l:List α,O (l.flatMap c)=O l*n
 |[]=>bR
 |x::l=>by simp[A x,cj A l,qi,kV]
def fA{α β:Type}{c:α->List β}{n}(A:∀x,O (c x)=n):∀(l:List α) (i:Nat),(l.flatMap c).drop (i*n)=(l.drop i).flatMap c
 |_,0=>bR
 |[],_+1=>bR
 |x::l,i+1=>by
  have:(i+1)*n=O (c x)+i*n:=by rw[A x,qi,kV]
  rw[bE,this,jo,kS,<-fA A l i];simp
def fY{α β:Type}{c:α->List β}{n}(A:∀x,O (c x)=n):∀(l:List α) (i:Nat),(l.flatMap c).take (i*n)=(l.take i).flatMap c
 |_,0=>bR
 |[],_+1=>bR
 |x::l,i+1=>by
  have:(i+1)*n=O (c x)+i*n:=by rw[A x,qi,kV]
  rw[bE,this,Bx,mV,bE,<-fY A l i,aH U];simp
abbrev Lk{α:Type}(c:α->List u)(l:List α):u:= .fz (O l) (l.flatMap c)
def nQ{c:α->List β}(A:∀x,O (c x)=n){l:List α}(h:i<=O l):dV (i*n) (l.flatMap c)=J ((l.drop i).flatMap c):=by rw[eY,fA A];rw[cj A];exact aM _ h
def Dg[Inhabited α]{c:α->List β}(A:∀x,O (c x)=n){l:List α}(h:i<O l):dC n ((l.drop i).flatMap c)=J (c (l.getD i default)):=by
 have e:l.drop i=l.getD i default::l.drop (i+1):=by rw[cM h];simp[List.getD,h]
 rw[e,bE,bZ _ _ (by simp[A])];rw[aD (by rw[A];exact an _),aH (by rw[A];exact an _)]
def YP[Inhabited α]{c:α->List β}{d:α->β}(A:∀x,c x=[d x]){l:List α}(h:i<O l):iS 0 ((l.drop i).flatMap c)=J (d (l.getD i default)):=by
 have e:l.drop i=l.getD i default::l.drop (i+1):=by rw[cM h];simp[List.getD,h]
 rw[e,bE,A];rfl
structure Hd where
 X:Nat
 bo:Nat
 deriving DecidableEq,Inhabited
def Hd.cells(h:Hd):List u:=[int h.X,u64 h.bo]
def Hd.av(h:Hd):u:= .agg h.cells
def gv(s:aY):List u:=[cg s]
abbrev strs(l:List aY):u:=Lk gv l
abbrev qF(l:List Hd):u:=Lk Hd.cells l
variable{c E:Nat}{cs:List u}{Q:aE}
section
variable{P:Program}
section
variable{α:Type}{a b:α}{l vs:List α}{n:Nat}
def agw:iS 0 (a::l)=J a:=bQ Z
def ahE:iS (n+1) (a::l)=iS n l:=bQ Z
def iq:dV 0 l=J l:=by cases l<;>rfl
def adI:dV (n+1) (a::l)=dV n l:=bQ Z
def qR:dC 0 l=J []:=by cases l<;>rfl
def O6(a:α):Option (List α)->Option (List α)
 |some r=>J (a::r)
 |none=>B
def Nq:O6 a (J l)=J (a::l):=bQ Z
def acA:dC (n+1) (a::l)=O6 a (dC n l):=by show Option.rec (motive:=λ_=>Option (List α)) B (λr=>J (a::r)) (dC n l)=_;cases dC n l<;>rfl
def aaU:eG 0 l []=J l:=by cases l<;>rfl
def ag3:eG 0 (a::l) (b::vs)=O6 b (eG 0 l vs):=by show Option.rec (motive:=λ_=>Option (List α)) B (λr=>J (b::r)) (eG 0 l vs)=_;cases eG 0 l vs<;>rfl
def ag5:eG (n+1) (a::l) vs=O6 a (eG n l vs):=by show Option.rec (motive:=λ_=>Option (List α)) B (λr=>J (a::r)) (eG n l vs)=_;cases eG n l vs<;>rfl
end
def Wj{b}:AWv (bW b) M=J b:=by cases b<;>rfl
def Qw{b}:AWv (bW b) R=J (!b):=by cases b<;>rfl
def Fo(d:Option TypeDesc)(h:aE)(a:u):Option u:=match d with
 |some .string=>match a with
  | .g (.string s)=>J (.g (goInt s.size))
  |_=>B
 |some (.slice _)=>match a with
  | .g (.slice _ n _)=>J (.g (goInt n))
  | .sl _ _ n _=>J (.g (goInt n))
  | .og _ _ _ n=>J (.g (goInt n))
  | .sle=>J (.g (goInt 0))
  | .fz n _=>J (.g (goInt n))
  | .e0=>J (.g (goInt 0))
  |_=>B
 |some (.map _ _)=>match a with
  | .g (.map B)=>J (.g (goInt 0))
  | .mp b=>match N h b with|some (.map es _)=>J (.g (goInt (O es)))|_=>B
  |_=>B
 |_=>B
def ahA{h a}:JE P t h a=Fo (P.underlying t) h a:=bQ Z
section
variable{e f:TypeId}{h:aE}
def ahi{n:Nat}:Fo (J (.slice e)) h (.fz n cs)=J (int n):=bQ Z
def ahS{b off n:Nat}:Fo (J (.slice e)) h (.sl b off n c)=J (int n):=bQ Z
def abK{n:Nat}:Fo (J (.slice e)) h (.g (.slice B n c))=J (int n):=bQ Z
def O9{l:List Hd}:Fo (J (.slice e)) h (qF l)=J (int (O l)):=bQ Z
def afg{l:aY}:Fo (J .string) h (cg l)=J (int (O l)):=bQ Z
end
def Oi(g:Option Bool)(n:Option Nat)(o:Option AO)(off:Nat):Option u:=match g,n with
 |some M,J n=>match o with
  |some o=>match o.cells? with
   |some cs=>((dV off cs).bind (dC n)).map .agg
   |none=>B
  |none=>B
 |some R,J _=>match o with
  |some o=>match o.cells? with|some cs=>iS off cs|none=>B
  |none=>B
 |_,_=>B
def O5{h b off}:wu P h t (.ptr b off)=Oi (zE P t) (cZ P t) (N h b) off:=by
 unfold wu Oi dt;cases zE P t with
 |none=>rfl
 |some g=>
  cases cZ P t with
  |none=>cases g<;>rfl
  |some n=>
   cases g with
   |false=>rfl
   |true=>
    dsimp only;cases N h b with
    |none=>rfl
    |some o=>
     dsimp only;cases o.cells? with
     |none=>rfl
     |some cs=>
      dsimp only;cases dV off cs with
      |none=>rfl
      |some r=>simp only[aT];cases dC n r<;>rfl
def GG{n off e}:Oi (J M) (J n) (J (.cells cs e)) off=((dV off cs).bind (dC n)).map .agg:=bQ Z
def P4{n off e}:Oi (J R) (J n) (J (.cells cs e)) off=iS off cs:=bQ Z
def PB(g:Option Bool)(n:Option Nat)(cs:List u):Option u:=match g,n with
 |some M,J n=>(dC n cs).map .agg
 |some R,J _=>iS 0 cs
 |_,_=>B
def OH{h}:wu P h t (.fp cs)=PB (zE P t) (cZ P t) cs:=by
 unfold wu PB;cases zE P t with
 |none=>rfl
 |some g=>
  cases cZ P t with
  |none=>cases g<;>rfl
  |some n=>cases g with
   |false=>rfl
   |true=>dsimp only;cases dC n cs<;>rfl
def FU{n}:PB (J M) (J n) cs=(dC n cs).map .agg:=bQ Z
def Qu{n}:PB (J R) (J n) cs=iS 0 cs:=bQ Z
def yY{l:List aY}{k:Nat}(hk:k<O l):iS 0 ((l.drop k).flatMap gv)=J (cg (l.getD k [])):=by rw[YP (c:=gv) (d:=cg) (λ_=>rfl) hk];rfl
def xn:∀x,O (gv x)=1:=λ_=>rfl
def iE:∀x:Hd,O (Hd.cells x)=2:=λ_=>rfl
def jX{l:List Hd}{k:Nat}(hk:k<O l):dC 2 ((l.drop k).flatMap Hd.cells)=J (l.getD k default).cells:=Dg iE hk
def Ny(o:Option AO)(off n:Nat):Option (List u):=match o with
 |some o=>match o.cells? with
  |some cs=>(dV off cs).bind (dC n)
  |none=>B
 |none=>B
def cL{h b off n}:dt h b off n=Ny (N h b) off n:=by
 unfold dt Ny;cases N h b with
 |none=>rfl
 |some o=>dsimp only;cases o.cells? with
  |none=>rfl
  |some cs=>dsimp only;cases dV off cs<;>rfl
def cV{e off n}:Ny (J (.cells cs e)) off n=(dV off cs).bind (dC n):=bQ Z
def IM(h:aE)(b:Nat)(o:Option AO)(off:Nat)(vs:List u):Option aE:=match o with
 |some (.cells cs e)=>(eG off cs vs).map λr=>aI h b (.cells r e)
 |some (.fM cs e es)=>(eG off cs vs).map λr=>aI h b (.fM r e es)
 |_=>B
def zH{h b off vs}:fL h b off vs=IM h b (N h b) off vs:=by
 unfold fL IM;cases N h b with
 |none=>rfl
 |some o=>cases o with
  |cells cs e=>dsimp only;cases eG off cs vs<;>rfl
  |fM cs e es=>dsimp only;cases eG off cs vs<;>rfl
  |_=>rfl
def w9{h b off vs e}:IM h b (J (.cells cs e)) off vs=(eG off cs vs).map λr=>aI h b (.cells r e):=bQ Z
def JO(sz:Option Nat)(b off:Nat)(m:Option Nat):Option QR:=match m with
 |some m=>sz.map λsize=> .val (.ptr b (off+m*size))
 |none=>B
def TH(sz:Option Nat)(cs:List u)(m:Option Nat):Option QR:=match m with
 |some m=>sz.bind λsize=>(dV (m*size) cs).map λl=> .val (.fp l)
 |none=>B
def qa(d:Option TypeDesc)(sz:TypeId->Option Nat)(x i:u):Option QR:=match d with
 |some (.slice e)=>match x with
  | .sl b off len _=>JO (sz e) b off ((mT i).bind (pJ len))
  | .og b off _ len=>JO (sz e) b off ((mT i).bind (pJ len))
  | .fz len cs=>TH (sz e) cs ((mT i).bind (pJ len))
  |_=>B
 |some (.array len e)=>match x with
  | .ptr b off=>JO (sz e) b off ((mT i).bind (pJ len))
  | .fp cs=>TH (sz e) cs ((mT i).bind (pJ len))
  |_=>B
 |_=>B
def KH{e b off len i}:wq P e b off len i=JO (cZ P e) b off ((mT i).bind (pJ len)):=by
 unfold wq JO;cases mT i with
 |none=>rfl
 |some n=>simp only[aT];cases pJ len n with
  |none=>rfl
  |some m=>dsimp only;cases cZ P e<;>rfl
def Px{e cs len i}:Dk P e cs len i=TH (cZ P e) cs ((mT i).bind (pJ len)):=by
 unfold Dk TH;cases mT i with
 |none=>rfl
 |some n=>simp only[aT];cases pJ len n with
  |none=>rfl
  |some m=>dsimp only;cases cZ P e with
   |none=>rfl
   |some size=>simp only[aT];cases dV (m*size) cs<;>rfl
def agK{x i}:Nt P t x i=qa (P.underlying t) (cZ P) x i:=by
 unfold qa Nt;cases P.underlying t with
 |none=>rfl
 |some d=>
  cases d with
  |slice e=>cases x<;>simp only[KH,Px]
  |array n e=>cases x<;>simp only[KH,Px]
  |_=>rfl
section
variable{e:TypeId}{sz:TypeId->Option Nat}{k:Nat}
def CB{b off len:Nat}(hk:k<len):qa (J (.slice e)) sz (.sl b off len c) (int k)=(sz e).map λsize=> .val (.ptr b (off+k*size)):=by simp only[qa,mT,aT,rB hk,JO]
def sT{len}(hk:k<len):qa (J (.slice e)) sz (.fz len cs) (int k)=(sz e).bind λsize=>(dV (k*size) cs).map λl=> .val (.fp l):=by simp only[qa,mT,aT,rB hk,TH]
def xg{l:List aY}(hk:k<O l):qa (J (.slice e)) sz (strs l) (int k)=(sz e).bind λsize=>(dV (k*size) (l.flatMap gv)).map λl=> .val (.fp l):=sT hk
def K0{l:List Hd}(hk:k<O l):qa (J (.slice e)) sz (qF l) (int k)=(sz e).bind λsize=>(dV (k*size) (l.flatMap Hd.cells)).map λl=> .val (.fp l):=sT hk
def Wo{b off n:Nat}(hk:k<n):qa (J (.array n e)) sz (.ptr b off) (int k)=(sz e).map λsize=> .val (.ptr b (off+k*size)):=by simp only[qa,mT,aT,rB hk,JO]
def RT{l:List aY}(hk:k<O l):dV (k*1) (l.flatMap gv)=J ((l.drop k).flatMap gv):=nQ xn U
def J8{l:List Hd}(hk:k<O l):dV (k*2) (l.flatMap Hd.cells)=J ((l.drop k).flatMap Hd.cells):=nQ iE U
end
def Pure.mk{h}{h':u->Prop}{v AV}(W:∀b,b<Y->N Q b=N h b)(F:Fz Q Y v AV)(h3:h' AV):Pure h Y h' v Q E:=⟨W,AV,F,h3⟩
def Pure.g{h Y}{h':u->Prop}{v Q E}(W:∀b,b<Y->N Q b=N h b)(h3:h' (.g v)):Pure h Y h' (.g v) Q E:=⟨W,_,.cw trivial,h3⟩
attribute[go_sem] agK CB xg K0 Wo RT J8 agw ahE iq adI qR acA Nq aaU ag3 ag5 Wj Qw ahA ahi ahS abK O9 afg O5 GG P4 OH FU Qu yY jX zH w9 aT eB
 fC dP gL iZ
end
section
variable{P:Program}{h:aE}{t:TypeId}{x y:Operand}{k:IntKind}{m n:Int}
def acT:dE P h .add t x y (.g (.int k m)) (.g (.int k n))=J (.g (.int k (cO k (m+n)))):=by simp[dE,eX,vf]
def aaM:dE P h .sub t x y (.g (.int k m)) (.g (.int k n))=J (.g (.int k (cO k (m-n)))):=by simp[dE,eX,vf]
def aa8:dE P h .lss t x y (.g (.int k m)) (.g (.int k n))=J (bW (decide (m<n))):=by simp[dE,eX,vf]
def ZS:dE P h .leq t x y (.g (.int k m)) (.g (.int k n))=J (bW (decide (m<=n))):=by simp[dE,eX,vf]
def abb:dE P h .gtr t x y (.g (.int k m)) (.g (.int k n))=J (bW (decide (n<m))):=by simp[dE,eX,vf]
def acG:dE P h .geq t x y (.g (.int k m)) (.g (.int k n))=J (bW (decide (n<=m))):=by simp[dE,eX,vf]
def ac5:dE P h .eql t x y (.g (.int k m)) (.g (.int k n))=J (bW (decide (m=n))):=by simp only[dE,eX,vf,cA];by_cases e:m=n<;>simp[e]
def Y':dE P h .neq t x y (.g (.int k m)) (.g (.int k n))=J (bW (!decide (m=n))):=by simp only[dE,eX,vf,cA];by_cases e:m=n<;>simp[e,bne]
def OB(hu:P.underlying t=J .bool)(a b):bM P (Op.equal t (.bool a) (.bool b))=J (a==b):=by unfold Op.equal Op.maxDepth Op.equalIn;simp only[cr,iI hu,cW]
def Ph{e}(hu:P.underlying t=J (.pointer e)):bM P (Op.equal t (.pointer B) (.pointer B))=J M:=by unfold Op.equal Op.maxDepth Op.equalIn;simp only[cr,iI hu,cW,Option.isNone_none]
def TX{l r q}(hu:P.underlying t=J (.func l r q)):bM P (Op.equal t .nilFunc .nilFunc)=J M:=by unfold Op.equal Op.maxDepth Op.equalIn;simp only[cr,iI hu,cW]
def eqC(d:Option TypeDesc)(a b:u):Option Bool:=match d with
 |some .bool=>match a,b with
  | .g (.bool a),.g (.bool b)=>J (a==b)
  |_,_=>B
 |some (.pointer _)=>match a,b with
  | .g (.pointer B),.g (.pointer B)=>J M
  | .ptr _ _,.g (.pointer B)=>J R
  | .g (.pointer B),.ptr _ _=>J R
  |_,_=>B
 |some (.func _ _ _)=>match a,b with
  | .g .nilFunc,.g .nilFunc=>J M
  | .fn _ _,.g .nilFunc=>J R
  |_,_=>B
 |some (.interface _)=>match a,b with
  | .lP _ _,.g .nilIface=>J R
  |_,_=>B
 |some (.slice _)=>match a,b with
  | .sl ..,.g (.slice B _ _)=>J R
  |_,_=>B
 |_=>B
def qg{a b r}(hr:eqC (P.underlying t) a b=J r):dE P h .eql t x y a b=J (bW r)/\dE P h .neq t x y a b=J (bW !r):=by
 unfold eqC at hr;split at hr
 .rename_i hu;split at hr
  .injection hr with hr;subst hr
   rename_i a b;have W:bM P (do eqGuard .eql t x y (.bool a) (.bool b);binOp .eql t (.bool a) (.bool b))=J (.bool (a==b)):=by unfold binOp eqGuard;simp only[cr,cW,OB hu];rfl
   have F:bM P (do eqGuard .neq t x y (.bool a) (.bool b);binOp .neq t (.bool a) (.bool b))=J (.bool (!(a==b))):=by unfold binOp eqGuard;simp only[cr,cW,OB hu];rfl
   simp[dE,eX,jm,u.pV,lH,W,F]
  .cases hr
 .rename_i e hu;split at hr
  .injection hr with hr;subst hr
   have W:bM P (do eqGuard .eql t x y (.pointer B) (.pointer B);binOp .eql t (.pointer B) (.pointer B))=J (.bool M):=by unfold binOp eqGuard;simp only[cr,cW,Ph hu];rfl
   have F:bM P (do eqGuard .neq t x y (.pointer B) (.pointer B);binOp .neq t (.pointer B) (.pointer B))=J (.bool R):=by unfold binOp eqGuard;simp only[cr,cW,Ph hu];rfl
   simp[dE,eX,jm,u.pV,lH,W,F]
  .injection hr with hr;subst hr
   simp[dE,eX,jm,u.pV,qA,wP,hu,Ec]
  .injection hr with hr;subst hr
   simp[dE,eX,jm,u.pV,qA,wP,hu,Ec]
  .cases hr
 .rename_i l r q hu;split at hr
  .injection hr with hr;subst hr
   have W:bM P (do eqGuard .eql t x y .nilFunc .nilFunc;binOp .eql t .nilFunc .nilFunc)=J (.bool M):=by unfold binOp eqGuard;simp only[cr,cW,TX hu];rfl
   have F:bM P (do eqGuard .neq t x y .nilFunc .nilFunc;binOp .neq t .nilFunc .nilFunc)=J (.bool R):=by unfold binOp eqGuard;simp only[cr,cW,TX hu];rfl
   simp[dE,eX,jm,u.pV,lH,W,F]
  .injection hr with hr;subst hr
   simp[dE,eX,jm,u.pV,qA,wP,hu,rP,Ts,FT]
  .cases hr
 .rename_i ms hu;split at hr
  .injection hr with hr;subst hr
   rename_i tt v;cases hv:v.pV with
   |none=>simp[dE,eX,jm,u.pV,hv,qA,wP,hu,rP,isIf,GB]
   |some AV=>
    have h0:bM P (Op.equal t (.iface tt AV) .nilIface)=J R:=by unfold Op.equal Op.maxDepth Op.equalIn;simp only[cr,iI hu,cW]
    have W:bM P (do eqGuard .eql t x y (.iface tt AV) .nilIface;binOp .eql t (.iface tt AV) .nilIface)=J (.bool R):=by unfold binOp eqGuard;simp only[cr,cW,h0];rfl
    have F:bM P (do eqGuard .neq t x y (.iface tt AV) .nilIface;binOp .neq t (.iface tt AV) .nilIface)=J (.bool M):=by unfold binOp eqGuard;simp only[cr,cW,h0];rfl
    simp[dE,eX,jm,u.pV,hv,lH,W,F]
  .cases hr
 .rename_i ms hu;split at hr
  .injection hr with hr;subst hr
   simp[dE,eX,jm,u.pV,qA,wP,hu,rP,Mw,zP]
  .cases hr
 .cases hr
def PA:Option TypeDesc->Bool
 |some .bool=>M
 |_=>R
def M4:Option TypeDesc->Bool
 |some (.pointer _)=>M
 |_=>R
def dFn:Option TypeDesc->Bool
 |some (.func _ _ _)=>M
 |_=>R
def dIf:Option TypeDesc->Bool
 |some (.interface _)=>M
 |_=>R
def dSl:Option TypeDesc->Bool
 |some (.slice _)=>M
 |_=>R
def dB1:PA (J .bool)=M:=bQ Z
def dP1{e}:M4 (J (.pointer e))=M:=bQ Z
def dS1{e}:dSl (J (.slice e))=M:=bQ Z
section
variable{a b:Bool}{p o:Nat}{f:FuncId}{c:List u}{tt:TypeId}{v:u}
def aeb(hu:PA (P.underlying t)=M):eqC (P.underlying t) (bW a) (bW b)=J (a==b):=by
 exact ath
def UO(hu:M4 (P.underlying t)=M):eqC (P.underlying t) HO HO=J M:=by
 exact ath
def VA(hu:M4 (P.underlying t)=M):eqC (P.underlying t) (.ptr p o) HO=J R:=by
 exact ath
def ahK(hu:dFn (P.underlying t)=M):eqC (P.underlying t) (.g .nilFunc) (.g .nilFunc)=J M:=by
 exact ath
def afr(hu:dFn (P.underlying t)=M):eqC (P.underlying t) (.fn f c) (.g .nilFunc)=J R:=by
 exact ath
def aeY(hu:dIf (P.underlying t)=M):eqC (P.underlying t) (.lP tt v) (.g .nilIface)=J R:=by
 exact ath
def aaS(hu:PA (P.underlying t)=M):dE P h .eql t x y (bW a) (bW b)=J (bW (a==b)):=(qg (aeb hu)).1
def acf(hu:PA (P.underlying t)=M):dE P h .neq t x y (bW a) (bW b)=J (bW (!(a==b))):=(qg (aeb hu)).2
def ads(hu:M4 (P.underlying t)=M):dE P h .eql t x y HO HO=J (bW M):=(qg (UO hu)).1
def Zw(hu:M4 (P.underlying t)=M):dE P h .neq t x y HO HO=J (bW R):=(qg (UO hu)).2
def Wm(hu:M4 (P.underlying t)=M):dE P h .eql t x y (.ptr p o) HO=J (bW R):=(qg (VA hu)).1
def VM(hu:M4 (P.underlying t)=M):dE P h .neq t x y (.ptr p o) HO=J (bW M):=(qg (VA hu)).2
def ae7(hu:dFn (P.underlying t)=M):dE P h .neq t x y (.g .nilFunc) (.g .nilFunc)=J (bW R):=(qg (ahK hu)).2
def acW(hu:dFn (P.underlying t)=M):dE P h .eql t x y (.fn f c) (.g .nilFunc)=J (bW R):=(qg (afr hu)).1
def YW(hu:dIf (P.underlying t)=M):dE P h .eql t x y (.lP tt v) (.g .nilIface)=J (bW R):=(qg (aeY hu)).1
end
def adl(a b):decide (xJ a b<0)=decide (a<b):=by
 unfold xJ;by_cases W:a<b;.simp[W]
 .by_cases F:b<a<;>simp[W,F]
def Y7(a b):decide (0<=xJ a b)= !decide (a<b):=by
 unfold xJ;by_cases W:a<b;.simp[W]
 .by_cases F:b<a<;>simp[W,F]
def abR(a b):decide (xJ a b<=0)= !decide (b<a):=by
 unfold xJ;by_cases W:a<b;.have:¬b<a:=λh=>absurd (List.lt_trans W h) (List.lt_irrefl a);simp[W,this]
 .by_cases F:b<a<;>simp[W,F]
attribute[go_sem] rN ql Bool.and_true Ab x9 pS Bool.or_false qP CM PC NY On sJ Cq dB1 dP1 dS1 YW acT aaM aa8 ZS abb acG ac5 Y' aaS acf ads Zw Wm VM acW ae7 adl Y7 abR
end
variable{hl:u->aE->Nat->Prop}{args':List u}{fn:Func}{mi:Int}
abbrev UP:=@az prog
def dG(r:u)(h:aE)(Y:Nat):u->aE->Nat->Prop:=λv Q E=>v=r/\Q=h/\E=Y
def bz(f:FuncId)(args:List u)(r:u):Prop:=∀h Y,UP f args h Y (dG r h Y)
def bz.of{T c}(hf:prog.funcs[f]?=J fn)(D:fn.body=J c)(Up:fn.results.toList=rs)
 (z:(iW fn.ntmps c&&fR prog T c)=M)  (ha:O args<=fn.ntmps) {r}
 (hw:∀h Y,h1 prog xt T c (Fin prog rs (Pure h Y λv=>v=r)) (eK args 0 .nil) h Y):bz f args r:=
 λh Y=>az.pure prog xt pk T hf D Up z ha (hw h Y)
def az.of{T c}(hf:prog.funcs[f]?=J fn)(D:fn.body=J c)(Up:fn.results.toList=rs)
 (z:(iW fn.ntmps c&&fR prog T c)=M)  (ha:O args<=fn.ntmps) {h}  
 (hw:h1 prog xt T c (Fin prog rs h') (eK args 0 .nil) h Y):UP f args h Y h':=
 az.akK prog xt pk T hf D Up z ha hw
def ba{r}(A:bz f args r){h}{k:Kp hl}(hk:hl r h Y):Dw prog f args h Y hl k:=
 (A h Y).mono _ λ_ _ _ ⟨a,b,c⟩=>by subst a;subst b;subst c;exact hk
theorem AJ{f args r}(A:bz f args r){h Y}{hl:u->aE->Nat->Prop}{k:Kp hl}{q:Prop}(hk:q)(e:hl r h Y=q:=by simp+decide-dsimp only[go_sem,Nat.reduceAdd,Nat.reduceMul];exact Z):Dw prog f args h Y hl k:=ba A (e▸hk)
def az.le{P h}(A:az P f args h Y h'):az P f args h Y λv Q E=>Y<=E/\h' v Q E:=
 ⟨A.1,λr w0 w vs hH hv=>(A.2 r w0 w vs hH hv).mono λ_ _ ⟨AV,r',v,Q,E,a,b,c,d,e,g,q⟩=>⟨AV,r',v,Q,E,a,b,c,d,e,g,d,q⟩⟩
def cm{h}(A:UP f args h Y h'){k:Kp hl}(hk:∀v Q E,Y<=E->h' v Q E->hl v Q E):Dw prog f args h Y hl k:=
 A.le.mono _ λv Q E q=>hk v Q E q.1 q.2
def pO{len es n}{h2:Nat->List Value->Prop}{k:Kp h2}(hk:∀(cap:Nat) (gs:List Value),len<=cap->n+O gs=cap*es->h2 cap gs):N6 len es n h2 k:=hk
abbrev T0:Nat->dr:=λ_=>[]
noncomputable def acB(T:Nat->dr)(fn:Func)(n:Nat):Bool:=fn.body.isSome&&(iW fn.ntmps (fn.body.getD .skip)&&fR prog T (fn.body.getD .skip))&&decide (n<=fn.ntmps)
def uT{T n}(z:acB T fn n=M):fn.body=J (fn.body.getD .skip)/\(iW fn.ntmps (fn.body.getD .skip)&&fR prog T (fn.body.getD .skip))=M/\n<=fn.ntmps:=by
 unfold acB at z;rw[aS,aS]at z;have⟨⟨W,F⟩,h3⟩:=z;refine⟨?_,F,eN h3⟩;cases D:fn.body with
 |none=>rw[D]at W;cases W
 |some c=>rfl
def az.ac{h:aE}(n:Nat)(T:Nat->dr)(hf:prog.funcs[f]?=some fn)(hw:h1 prog xt T (fn.body.getD .skip) (Fin prog fn.results.toList h') (eK args 0 .nil) h Y)(hn:args.length=n:=by rfl)(z:acB T fn n=true:=by kernel_rfl):az prog f args h Y h':=
 az.of (T:=T) hf (uT z).1 rfl (uT z).2.1 (by rw[hn];exact(uT z).2.2) hw
def bz.ac{r:u}(n:Nat)(T:Nat->dr)(hf:prog.funcs[f]?=some fn)(hw:∀h Y,h1 prog xt T (fn.body.getD .skip) (Fin prog fn.results.toList (Pure h Y λv=>v=r)) (eK args 0 .nil) h Y)(hn:args.length=n:=by rfl)(z:acB T fn n=true:=by kernel_rfl):bz f args r:=
 bz.of (T:=T) hf (uT z).1 rfl (uT z).2.1 (by rw[hn];exact(uT z).2.2) hw
def az.pc{h:aE}{h':u->Prop}(n:Nat)(T:Nat->dr)(hf:prog.funcs[f]?=some fn)(hw:h1 prog xt T (fn.body.getD .skip) (Fin prog fn.results.toList (Pure h Y h')) (eK args 0 .nil) h Y)(hn:args.length=n:=by rfl)(z:acB T fn n=true:=by kernel_rfl):az prog f args h Y λv W cC=>h' v/\W=h/\cC=Y:=
 az.pure prog xt pk T hf (uT z).1 rfl (uT z).2.1 (by rw[hn];exact(uT z).2.2) hw
def aG(n:Nat)(h Q:aE):Prop:=∀b,b<n->N Q b=N h b
def OG(n b0:Nat)(h Q:aE):Prop:=∀b,b<n->b≠b0->N Q b=N h b
def aG.refl{n h}:aG n h h:=λ_ _=>rfl
def aG.trans{n m h Q Ai}(a:aG n h Q)(b:aG m Q Ai)(hm:n<=m):aG n h Ai:=λc A=>(b c U).trans (a c A)
def aG.set{n h o}(a:aG n h Q)(A:n<=c):aG n h (aI Q c o):=λb D=>by rw[Xg];exact a b D
def aG.le{n h}(a:aG m h Q)(hm:n<=m):aG n h Q:=λb D=>a b U
def OG.same{n b0 h}(a:OG n b0 h Q)(W:m<=b0)(F:m<=n):aG m h Q:=λb D=>a b U U
def zB{h b o}(D:b<Y)(A:Y<=c):N (aI h c o) b=N h b:=Ce
def Pure.of{h r v}(W:aG Y h Q)(F:Fz Q Y v r):Pure h Y (λv=>v=r) v Q E:=⟨W,r,F,Z⟩
def Fz.cP{h v}:Fz h Y (.g v) (.g v):= .cw trivial
def Fz.cg{h Y l}:Fz h Y (cg l) (cg l):= .cw trivial
def AG{P}(V:∃fr,bY.enter P f args R=J fr)(K:O args=O args'):∃fr,bY.enter P f args' R=J fr:=by
 have⟨fr,V⟩:=V;unfold bY.enter at V⊢;cases hf:P.funcs[f]? with
 |none=>rw[hf]at V;cases V
 |some fn=>
  rw[hf]at V;dsimp only at V⊢;cases D:fn.body with
  |none=>rw[D]at V;cases V
  |some c=>
   rw[D]at V;dsimp only at V⊢;rw[<-K];split at V;.rename_i cf;rw[au cf];exact⟨_,Z⟩
   .cases V
def az.empty{P rest h}(W:az P f (FB::rest) h Y h')(F:az P f (.sle::rest) h Y h'):az P f (.fz 0 []::rest) h Y h':=by
 refine⟨AG W.1 Z,λr w0 w vs hH hv=>?_⟩;cases hv with
 |cons e t=>
  cases e with
  |EM=>exact W.2 r w0 w _ hH (.cons (.g _) t)
  |Ee=>exact F.2 r w0 w _ hH (.cons .sle t)
  |fz a b c=>cases c;exact F.2 r w0 w _ hH (.cons .sle t)
section
variable{P:Program}{h:aE}{t e:TypeId}{sz b off len cap i j:Nat}{lo H:Option u}{cs:List u}
def asl(hu:P.underlying t=J (.slice e))(G:cZ P e=J sz):fW P t (.sl b off len cap) lo H=ub sz b off len cap lo H:=by unfold fW;simp only[hu,G]
def asf(hu:P.underlying t=J (.slice e))(G:cZ P e=J sz):fW P t (.fz len cs) lo H=xI sz len cs lo H:=by unfold fW;simp only[hu,G]
def ae5(hu:P.underlying t=J (.slice e))(G:cZ P e=J sz){H}:nU P t (.sl b off len cap) lo H (int mi)=OO sz b off cap mi lo H:=by unfold nU;simp only[hu,G,mT]
def aiV(hu:P.underlying t=J (.slice e))(G:cZ P e=J sz){H}:nU P t (.fz len cs) lo H (int mi)=fz3 sz len cs mi lo H:=by unfold nU;simp only[hu,G,mT]
def NZ(K:i<=len):ub sz b off len cap (J (int i)) B=J (.sl b (if cap=i then off else off+i*sz) (len-i) (cap-i)):=by simp only[ub,fX,mT,iF K]
def OD(K:i<=cap):ub sz b off len cap B (J (int i))=J (.sl b off i cap):=by simp[ub,fX,mT,iF K]
def Pg(W:i<=j)(F:j<=cap):ub sz b off len cap (J (int i)) (J (int j))=J (.sl b (if cap=i then off else off+i*sz) (j-i) (cap-i)):=by simp only[ub,fX,mT,iF W,iF F]
def afe(W:i<=j)(F:j<=m)(h3:m<=cap):OO sz b off cap m (J (int i)) (int j)=J (.sl b (if m=i then off else off+i*sz) (j-i) (m-i)):=by simp only[OO,fX,mT,iF W,iF F,iF h3]
def ajr(F:j<=m)(h3:m<=cap):OO sz b off cap m B (int j)=J (.sl b off j m):=by simp[OO,fX,mT,iF F,iF h3]
def vp(h:aE)(e:TypeId)(size:Nat)(q:Option (Nat×List u))(s:u):Option ER:=match q with
 |some p=>if p.1<65536 then qV h e size p.1 p.2 s else B
 |none=>B
def w7(hu:P.underlying t=J (.slice e))(G:cZ P e=J sz){y}(hy:lO P e=J y){hd}(hz:dS P e=J hd)(tm:(decide (0<sz)&&decide (0<y)&&decide (y<65536)&&O hd==sz)=M){s x}:
 iJ P h #[t,t] s x=vp h e sz (eD h sz x) s:=by
 unfold iJ;simp only[hu,UU,G,hy,hz,RL];unfold vp;cases eD h sz x with
 |none=>rfl
 |some p=>dsimp only;simp only[aS]at tm;unfold RM;simp only[tm.1.1.1,tm.1.1.2,tm.1.2,tm.2,Ab,Bool.and_true,fK]
def CI(hu:P.underlying t=J (.slice e))(G:cZ P e=J sz){y}(hy:lO P e=J y){hd}(hz:dS P e=J hd)(tm:(decide (0<sz)&&decide (0<y)&&decide (y<65536)&&O hd==sz)=M)
 {t'} {k:IntKind} (TG:P.underlying t'=J (.int k)) {s} {n:Nat}:
 iJ P h #[t,t'] s (int n)=vp h e sz (J (n,gT n (hd.map .g))) s:=by
 unfold iJ;simp only[hu,UU,G,hy,hz,RL,TG,QF,mT];unfold vp;simp only[aS]at tm;unfold RM;simp only[tm.1.1.1,tm.1.1.2,tm.1.2,tm.2,Ab,Bool.and_true,fK]
variable{n size:Nat}{new:List u}
def ze{s}(hn:n<65536):vp h e size (J (n,new)) s=qV h e size n new s:=by simp[vp,hn]
def L3{s}:qV h e size 0 new s=yA h s:=by simp[qV]
def GA(K:len<=cap):yA h (.sl b off len cap)=J (.val (.sl b off len cap) h):=by simp[yA,K]
def DP:yA h (FB)=J (.val (FB) h):=bQ Z
def Dp(hn:(n==0)=R):qV h e size n new (FB)=J (.rf (.fM new e size) n h):=by
 have:n≠0:=Mf hn
 simp[qV,this]
def Ay(hn:(n==0)=R)(hr:len+n<=cap)(A:new.all u.dh=M):qV h e size n new (.sl b off len cap)=(fL h b (off+len*size) new).map λQ=> .val (.sl b off (len+n) cap) Q:=by
 have:n≠0:=Mf hn
 simp only[qV,this,cU,TW,hr,cA,A];cases fL h b (off+len*size) new<;>rfl
def Ap(hn:(n==0)=R)(hr:¬len+n<=cap)(G:len+n<65536):qV h e size n new (.sl b off len cap)=(dt h b off (len*size)).map λold=> .rf (.fM (old++new) e size) (len+n) h:=by
 have:n≠0:=Mf hn
 simp only[qV,this,cU,TW,hr,(U:¬65536<=len+n)];cases dt h b off (len*size)<;>rfl
def GV(K:O cs=n*size):eD h size (.fz n cs)=J (n,cs):=by simp[eD,K]
def DW:eD h size (FB)=J (0,[]):=bQ Z
def Mz:eD h size .sle=J (0,[]):=bQ Z
def AF:eD h size (.sl b off len cap)=(dt h b off (len*size)).map λl=>(len,l):=by simp only[eD];cases dt h b off (len*size)<;>rfl
end
def ahw{P:Program}{t}(hu:dSl (P.underlying t)=M){b o n}:eqC (P.underlying t) (.sl b o n c) (FB)=J R:=by
 exact ath
def IA{α:Type}{c:α->List u}(A:∀x,(c x).all u.dh=M):∀l:List α,(l.flatMap c).all u.dh=M
 |[]=>rfl
 |x::l=>by rw[bE,vt,A x,IA A l];rfl
variable{b1 b2 c1 c2 o2 size:Nat}{y:Operand}
def cpR(h:aE)(size:Nat)(n:Option Nat)(q:Option (Nat×List u))(d:u):Option ER:=match n with
 |some dn=>match q with
  |some p=>wS h size (Nat.min p.1 dn) p.2 d
  |none=>B
 |none=>B
def KA{h dn n cs d}:cpR h size (J dn) (J (n,cs)) d=wS h size (Nat.min n dn) cs d:=bQ Z
def abe(d:Option TypeDesc)(a:u):Option QR:=match d with
 |some (.slice _)=>Uy a
 |_=>B
def aeZ{h}{ev:Operand->u}{a t}:wM P h ev ⟨.builtin .cap,#[a],#[t]⟩=abe (P.underlying t) (ev a):=by
 show(match P.underlying t with|some (.slice _)=>Uy (ev a)|_=>B)=_;unfold abe;cases P.underlying t with
 |none=>rfl
 |some d=>cases d<;>rfl
def Yq{e b o n c}:abe (J (.slice e)) (.sl b o n c)=J (.val (int c)):=bQ Z
def aga{h o1 n1 n2}(D:¬b1=b2)(W:j8 h b1=M)(F:j8 h b2=M):dW h (.O0 t) [.sl b1 o1 n1 c1,.sl b2 o2 n2 c2]=J (.val (bW R) h):=by simp[dW,KJ,D,W,F]
def JC{b o n}:qN (.sl b o n c)=J n:=bQ Z
def cpS(h:aE)(n:Nat)(q:Option (List u))(b off:Nat):Option ER:=match q with
 |some q=>if q.all u.dh then(fL h b off q).map λQ=> .val (int n) Q else B
 |none=>B
def Gi{h}{n b off len cap:Nat}{cs}(hn:(n==0)=R):wS h size n cs (.sl b off len cap)=cpS h n (dC (n*size) cs) b off:=by
 have:n≠0:=Mf hn
 unfold wS cpS;rw[ak this];cases dC (n*size) cs with
 |none=>rfl
 |some q=>
  dsimp only[qx];split;.cases fL h b off q<;>rfl
  .rfl
def Kk{h}{n b off:Nat}{q:List u}(hq:q.all u.dh=M):cpS h n (J q) b off=(fL h b off q).map λQ=> .val (int n) Q:=by simp[cpS,hq]
section
variable{h:aE}{b off len cap n:Nat}{cs:List u}{lo H:Option u}{v s x:u}{m:Int}
def aof:fW prog 45 (.sl b off len cap) lo H=ub 1 b off len cap lo H:=asl Ad SL
def arF:fW prog 45 (.fz len cs) lo H=xI 1 len cs lo H:=asf Ad SL
def aeW:nU prog 45 (.sl b off len cap) lo v (int m)=OO 1 b off cap m lo v:=ae5 Ad SL
def f345:nU prog 45 (.fz len cs) lo v (int m)=fz3 1 len cs m lo v:=aiV Ad SL
def an7:fW prog 45 (FB) (J (int 0)) B=J (FB):=aK
def apQ:iJ prog h #[45,45] s x=vp h 9 1 (eD h 1 x) s:=w7 Ad SL tb9 tz9 bS
def aor:iJ prog h #[45,3] s (int n)=vp h 9 1 (J (n,gT n [cg []])) s:=by exact CI Ad SL tb9 tz9 bS Fy
def apS{ev:Operand->u}:gI prog ev 45 0 []=J (.ri (.cells [] 9) 0 0):=by simp[gI,SL,tz9,ig,gl,gT]
def aoR:rO prog h #[45,45] s x=cpR h 1 (qN s) (eD h 1 x) s:=by
 unfold rO cpR;simp only[Ad,SL];exact auR
def apa:sw prog h #[45] (.sl b off 1 cap)=mz (fL h b off [cg []]):=by simp[sw,tz9,qN,qx,gT,u.dh,cg]
end
section
variable{h:aE}{b off len cap n:Nat}{cs:List u}{lo H:Option u}{v s x:u}{m:Int}
def aoY:fW prog 46 (.sl b off len cap) lo H=ub 1 b off len cap lo H:=asl yz SK
def aqW:nU prog 46 (.sl b off len cap) lo v (int m)=OO 1 b off cap m lo v:=ae5 yz SK
def f346:nU prog 46 (.fz len cs) lo v (int m)=fz3 1 len cs m lo v:=aiV yz SK
def aq6:fW prog 46 (FB) (J (int 0)) B=J (FB):=aK
def anH:iJ prog h #[46,46] s x=vp h 5 1 (eD h 1 x) s:=w7 yz SK tb5 tz5 bS
def ap6:iJ prog h #[46,3] s (int n)=vp h 5 1 (J (n,gT n [u8 0])) s:=by exact CI yz SK tb5 tz5 bS Fy
def aq5{ev:Operand->u}:gI prog ev 46 0 []=J (.ri (.cells [] 5) 0 0):=by simp[gI,SK,tz5,ig,gl,gT]
def apd:rO prog h #[46,46] s x=cpR h 1 (qN s) (eD h 1 x) s:=by
 unfold rO cpR;simp only[yz,SK];exact auR
def aqo:sw prog h #[46] (.sl b off 1 cap)=mz (fL h b off [u8 0]):=by simp[sw,tz5,qN,qx,gT,u.dh]
end
section
variable{h:aE}{b off len cap n:Nat}{cs:List u}{lo H:Option u}{v s x:u}{m:Int}
def ajB:fW prog 243 (.sl b off len cap) lo H=ub 2 b off len cap lo H:=asl xQ oE
def ajO:fW prog 243 (.fz len cs) lo H=xI 2 len cs lo H:=asf xQ oE
def ahZ:nU prog 243 (.sl b off len cap) lo v (int m)=OO 2 b off cap m lo v:=ae5 xQ oE
def am6:fW prog 243 (FB) (J (int 0)) B=J (FB):=aK
def aie:iJ prog h #[243,243] s x=vp h 245 2 (eD h 2 x) s:=w7 xQ oE Uj Ey bS
def am8:iJ prog h #[243,3] s (int n)=vp h 245 2 (J (n,gT n [int 0,u64 0])) s:=by exact CI xQ oE Uj Ey bS Fy
def aik{ev:Operand->u}:gI prog ev 243 0 []=J (.ri (.cells [] 245) 0 0):=by simp[gI,oE,Ey,ig,gl,gT]
def ajH:rO prog h #[243,243] s x=cpR h 2 (qN s) (eD h 2 x) s:=by
 unfold rO cpR;simp only[xQ,oE];cases qN s with
 |none=>rfl
 |some dn=>cases eD h 2 x<;>rfl
def amn:sw prog h #[243] (.sl b off 1 cap)=mz (fL h b off [int 0,u64 0]):=by simp[sw,Ey,qN,qx,gT,u.dh]
end
def afB{h x b o n}(hu:dSl (prog.underlying t)=M):dE prog h .eql t x y (.sl b o n c) (FB)=J (bW R):=(qg (ahw hu)).1
def af0{h x n cs}(hu:dSl (P.underlying t)=M)(hn:(n==0)=R):dE P h .eql t x y (.fz n cs) (FB)=J (bW R):=by
 cases n with
 |zero=>cases hn
 |succ n=>
 exact aum
def adt{h x}(hu:dSl (P.underlying t)=M):dE P h .eql t x y .sle (FB)=J (bW R):=by
 exact aum
def aeH{h x}(ht:t=45\/t=46\/t=243):dE prog h .eql t x y (FB) (FB)=J (bW M):=by
 have key:∀t,(t=45\/t=46\/t=243)->bM prog (do eqGuard .eql t x y (.slice B 0 0) (.slice B 0 0);binOp .eql t (.slice B 0 0) (.slice B 0 0))=J (.bool M):=by
  intro t ht;have G:∃e,prog.underlying t=J (.slice e):=by
   obtain rfl|rfl|rfl:=ht;.exact⟨_,Ad⟩
   .exact⟨_,yz⟩
   .exact⟨_,xQ⟩
  have⟨e,hu⟩:=G;have:bM prog (Op.equal t (.slice B 0 0) (.slice B 0 0))=J M:=by unfold Op.equal Op.maxDepth Op.equalIn;simp only[cr,iI hu,cW,Option.isNone_none]
  unfold binOp eqGuard;simp only[cr,cW,this];rfl
 simp[dE,eX,jm,u.pV,lH,key t ht]
def PQ{h}:mz (J h)=J (.val (.g undef) h):=bQ Z
def C0(l:List aY):O (l.flatMap gv)=O l*1:=cj xn l
def Pb(l:List Hd):O (l.flatMap Hd.cells)=O l*2:=cj iE l
def jU(b:UInt8):List u:=[.g (.int .u8 (b.toNat:Nat))]
def Wa:∀x,O (jU x)=1:=λ_=>rfl
def D7(l:List UInt8):O (l.flatMap jU)=O l*1:=cj Wa l
def ae6(l:List UInt8):(l.flatMap jU).all u.dh=M:=IA (λ_=>rfl) l
def aeF(l:List aY):(l.flatMap gv).all u.dh=M:=IA (λ_=>rfl) l
def aht(l:List Hd):(l.flatMap Hd.cells).all u.dh=M:=IA (λ_=>rfl) l
attribute[go_sem] D7 ae6 aeZ Yq aga an KA JC Gi Kk PQ Option.map_none C0 Pb aeF aht fJ N0 cz fx bD aq afB af0 adt aeH ze L3 GA DP Dp Ay Ap GV DW Mz AF NZ OD Pg afe ajr aoR apS apa aof arF aeW f345 an7 apQ aor apd aq5 aqo aoY aqW f346 aq6 anH ap6 ajH aik amn ajB ajO ahZ am6 aie am8
variable{sz:Nat}
def AR(h:aE)(b off:Nat)(n:Option Nat)(cs:Option (List u)):Option ER:=match cs with
 |some cs=>match n with
  |some n=>if O cs==n&&cs.all u.dh then mz (fL h b off cs)else B
  |none=>B
 |none=>B
def TJ{off x}:vY P h t (.ptr b off) x=AR h b off (cZ P t) x.cells:=by
 unfold vY AR;cases x.cells with
 |none=>rfl
 |some cs=>dsimp only;cases cZ P t<;>rfl
def vH{off}(K:O cs=n)(A:cs.all u.dh=M):AR h b off (J n) (J cs)=mz (fL h b off cs):=by simp[AR,K,A]
def R9{l}:u.cells (cg l)=J [cg l]:=bQ Z
def RY{cs}:u.cells (.agg cs)=J cs:=bQ Z
def RF{b o}:u.cells (.ptr b o)=J [.ptr b o]:=bQ Z
def We{b o n c}:u.cells (.sl b o n c)=J [.sl b o n c]:=bQ Z
def Q8{k n}:u.cells (.g (.int k n))=J [.g (.int k n)]:=bQ Z
def RS{b}:u.cells (bW b)=J [bW b]:=bQ Z
def Vl{a}:u.cells (.g (.pointer a))=J [.g (.pointer a)]:=bQ Z
def Wl{a n c}:u.cells (.g (.slice a n c))=J [.g (.slice a n c)]:=bQ Z
def VC:u.cells (.g .nilFunc)=J [.g .nilFunc]:=bQ Z
def VJ{b}:u.cells (.mp b)=J [.mp b]:=bQ Z
def UB{f c}:u.cells (.fn f c)=J [.fn f c]:=bQ Z
def Sp{t v}:u.cells (.lP t v)=J [.lP t v]:=bQ Z
def Uu{cs}:u.cells (.fp cs)=J [.fp cs]:=bQ Z
attribute[go_sem] RY RF We Q8 RS Vl Wl VC VJ UB Sp Uu
def Nv{l}:u.dh (cg l)=M:=bQ Z
def Qs:u.dh (.fz n cs)=M:=bQ Z
def QO{o}:u.dh (.sl b o n c)=M:=bQ Z
def My{o}:u.dh (.ptr b o)=M:=bQ Z
def MD{k:IntKind}{n}:u.dh (.g (.int k n))=M:=bQ Z
def Nh{b}:u.dh (bW b)=M:=bQ Z
def P6{a n c}:u.dh (.g (.slice a n c))=M:=bQ Z
def QG{b c}:u.dh (.fn b c)=M:=bQ Z
def M9{t v}:u.dh (.lP t v)=M:=bQ Z
def Qy{cs}:u.dh (.fp cs)=M:=bQ Z
def YD{e}:Ae P e=(dS P e).map λhd=> .wF (.cells (hd.map .g) e):=by unfold Ae;cases dS P e<;>rfl
def M5(hd:Option (List Value))(fs:Option (List (Nat×Nat)))(ev:Operand->u)(ps:List (Nat×Operand)):Option QR:=match hd with
 |some hd=>match fs with
  |some fs=>Kq (gl (λi=>iS i fs) ev ps (hd.map .g))
  |none=>B
 |none=>B
def ZQ{ev:Operand->u}{ps}(hu:xD P t=M):vW P ev t ps=M5 (dS P t) (fieldsOf P t) ev ps:=by
 unfold xD at hu;unfold vW M5;cases dS P t with
 |none=>rfl
 |some hd=>
  dsimp only;cases z:P.underlying t with
  |none=>rw[z]at hu;cases hu
  |some d=>
   rw[z]at hu;cases d<;>first|(cases hu;done)|skip
   dsimp only;cases fieldsOf P t<;>rfl
def Kz{hd fs ev ps}:M5 (J hd) (J fs) ev ps=Kq (gl (λi=>iS i fs) ev ps (hd.map .g)):=bQ Z
def Se:Kq (J cs)=J (.val (.agg cs)):=bQ Z
def MH(r:Option (List u))(h2:List u->Option (List u)):Option (List u):=match r with
 |some r=>h2 r
 |none=>B
def JZ{r h2}:MH (J r) h2=h2 r:=bQ Z
def MK{place ev cs}:gl place ev [] cs=J cs:=bQ Z
def Kx{place ev cs}{x:Nat×Operand}{rest}:gl place ev (x::rest) cs=MH (apart (place x.1) (ev x.2).cells cs) (λr=>gl place ev rest r):=by rw[gl];unfold MH;cases apart (place x.1) (ev x.2).cells cs<;>rfl
def MA{off}(h:O vs=n):apart (J (off,n)) (J vs) cs=eG off cs vs:=by simp[apart,h]
def G8{e len cs}:ig e len (J cs)=J (.ri (.cells cs e) len len):=bQ Z
def sX{e len hd ev ps}(hu:P.underlying t=J (.slice e))(G:cZ P e=J sz)(hz:dS P e=J hd)(W:len*sz<=4096)(F:O hd=sz):
 gI P ev t len ps=ig e len (gl (λi=>J (i*sz,sz)) ev ps (gT len (hd.map .g))):=by
 simp[gI,hu,G,hz,W,F]
def aqU{ev ps}:gI prog ev 45 1 ps=ig 9 1 (gl (λi=>J (i*1,1)) ev ps [cg []]):=sX Ad SL tz9 bS Z
def ai9{ev ps}:gI prog ev 45 2 ps=ig 9 2 (gl (λi=>J (i*1,1)) ev ps [cg [],cg []]):=sX Ad SL tz9 bS Z
def ak1{ev ps}:gI prog ev 243 1 ps=ig 245 1 (gl (λi=>J (i*2,2)) ev ps [int 0,u64 0]):=sX xQ oE Ey bS Z
def afW{ev ps}:gI prog ev 243 2 ps=ig 245 2 (gl (λi=>J (i*2,2)) ev ps [int 0,u64 0,int 0,u64 0]):=sX xQ oE Ey bS Z
def aoF{ev ps}:gI prog ev 46 1 ps=ig 5 1 (gl (λi=>J (i*1,1)) ev ps [u8 0]):=sX yz SK tz5 bS Z
def Ud{n cs}:u.cells (.fz n cs)=J [.fz n cs]:=bQ Z
attribute[go_sem] YD ZQ Kz Se JZ MK Kx MA G8 aqU ai9 ak1 afW aoF Ud
def ajW{l:aY}:u.g (.string ⟨l.toArray⟩)=cg l:=bQ Z
attribute[go_sem] ajW TJ vH R9 Nv Qs QO My MD Nh P6 QG M9 Qy List.all_cons List.all_nil
def aoN:(n=n+(k+1))=False:=FJ U
def aqf:(n+(k+1)=n)=False:=FJ U
def anM{a}:(n=n+(k+1)+a)=False:=FJ U
def aqv{a}:(n+(k+1)+a=n)=False:=FJ U
def anN{a}:(n=n+(k+1)+a+b)=False:=FJ U
def aqu{a}:(n+(k+1)+a+b=n)=False:=FJ U
def ao2{a}:(n=n+(k+1)+a+b+c)=False:=FJ U
def bc0{a}:(n+a=n+b)=(a=b):=propext Nat.add_left_cancel_iff
attribute[go_sem] aoN aqf anM aqv anN aqu ao2 bc0 ew
def apG:n<n+(k+1):=U
def arB{a}:n<n+(k+1)+a:=U
def ark{a}:n<n+(k+1)+a+b:=U
def aol{a}:n<n+(k+1)+a+b+c:=U
attribute[go_sem] apG arB ark aol
def Lc(w:Option Bool)(q:Option QR)(d:Option Tmp)(s:BT u)(h:aE)(base i:Nat):Prop:=match w with
 |some M=>match q with
  |some q=>(match d with|some d=>X s d=q.av (base+i)|none=>True)/\(match q.obj with|some ob=>N h (base+i)=J ob|none=>True)
  |none=>False
 |some R=>match d with|some d=>X s d= .g undef|none=>True
 |none=>False
def ahq{ops base i o s h}:vr P ops base i o s h=Lc (eM ops s o) (en P h (qw s) o) o.dst s h base i:=bQ Z
def asg{v d s h base i}:Lc (J M) (J (.val v)) (J d) s h base i=(X s d=v):=by simp[Lc,QR.av,QR.obj]
def ase{q d s h base i}:Lc (J R) q (J d) s h base i=(X s d= .g undef):=bQ Z
attribute[go_sem] ahq asg ase and_true true_and and_self eq_self
variable{hc zyQ:List u}{cap oM:Nat}
def Own{α:Type}(c:α->List u)(e sz:Nat)(h:aE)(v:u)(l:List α):Prop:=
 (v= .g (.slice B 0 0)/\l=[])\/∃b cap hc,v= .sl b 0 (O l) cap/\N h b=J (.cells hc e)/\O l<=cap/\O hc=cap*sz/\hc.take (O l*sz)=l.flatMap c
def cu:u->Option Nat
 | .sl b _ _ _=>J b
 |_=>B
def In(lo H:Nat)(v:u):Prop:=∀b,cu v=J b->lo<=b/\b<H
def Frame(n:Nat)(v:u)(h Q:aE):Prop:=∀b,b<n->cu v≠J b->N Q b=N h b
def Frame.refl{v}:Frame n v h h:=λ_ _ _=>rfl
def Frame.set{v o}(a:Frame n v h Q)(A:n<=c\/cu v=J c):Frame n v h (aI Q c o):=λb D cD=>by
 rw[aj];split
 .rename_i e;obtain A|A:=A
  .omega
  .rw[e]at cD;exact absurd A cD
 .exact a b D cD
def aG.frame{v}(a:aG n h Q):Frame n v h Q:=λb D _=>a b D
def Frame.same{lo H v}(a:Frame n v h Q)(i:In lo H v)(m)(W:m<=lo)(F:m<=n):aG m h Q:=λb D=>a b U λe=>by have:=(i b e).1;omega
def In.nil{lo H v}:In lo H (.g v):=λ_ e=>by cases e
def In.sl{lo H b o l c}(W:lo<=b)(F:b<H):In lo H (.sl b o l c):=λ_ e=>by cases e;exact⟨W,F⟩
def In.le{lo H ke v}(i:In lo H v)(W:ke<=lo)(F:H<=oM):In ke oM v:=λb e=>by have:=i b e;omega
def XZ{P h':List α}{p}(h:O P=p):(P++h').drop p=h':=by subst h;simp
def Ns{P h':List α}{p}(h:O P=p):(P++h').take p=P:=by subst h;simp
def dr2{P h' zxQ:List α}{p}(h:O P+O h'=p):(P++h'++zxQ).drop p=zxQ:=XZ (aq▸h)
def a39(l:List aY)(K:O l<65536)(h Y):UP 39 [strs l] h Y λv Q E=>aG Y h Q/\In Y E v/\Own gv 9 1 Q v l:=by
 by_cases hn:(O l==0)=R
 .refine az.ac 1 T0 func39 ?_
  refine PV f39.eq_1 hn K (Mf hn:¬(O l<=0)) (λo e=>by rw[cL,Sr,cV,iq,aT,qR]:∀o e,dt (aI h Y (.cells o e)) Y 0 0=J []) ?_;refine pO λcap gs A hg=>?_;refine QZ ?_;exact⟨(aG.refl.set (an _)).set (bG _),.sl (bG _) (aZ _),.inr ⟨_,cap,_,Z,iA,A,by simp only[aq,bh,C0];exact hg,
   by rw[aD (by rw[C0];exact an _),aH (by rw[C0];exact an _)]⟩⟩
 .have:l=[]:=by cases l with
   |nil=>rfl
   |cons x l=>exact absurd Z hn
  subst this;refine .empty ?_ ?_;.refine az.ac 1 T0 func39 (Xf f39.eq_1 ?_);exact⟨.refl,.nil,.inl ⟨Z,Z⟩⟩
  .refine az.ac 1 T0 func39 (Xf f39.eq_1 ?_);exact aui
def ahk:=RB [(5,[MO z5 6,MO [] 7,RX])]
def amk(l:List aY)(K:O l<65536)(v)(i:Nat)(H:i<O l)(h Y)(ho:Own gv 9 1 h v l)(mO:In 0 Y v):
 UP 250 [v,int i,int (i+1:Nat)] h Y λv' Q E=>Frame Y v h Q/\cu v'=cu v/\Own gv 9 1 Q v' (l.eraseIdx i):=by
 rcases ho with⟨rfl,rfl⟩|⟨b,cap,hc,rfl,hA,nG,cf,eJ⟩;.simp at H
 refine az.ac 3 ahk func250 ?_;have W:i+1<=O l:=H;have F:i<=i+1:=bG i;have h3:O l<=O l:=an _;have h4:¬((i:Int)=((i+1:Nat):Int)):=U;have h5:i<=cap:=U;have dt:br.dt h b (if cap=i+1 then 0 else(i+1)*1) ((O l-(i+1))*1)=J ((l.drop (i+1)).flatMap gv):=by
  have hz:∀x,O (gv x)=1:=λ_=>rfl;have e1:(hc.drop ((i+1)*1)).take ((O l-(i+1))*1)=(l.drop (i+1)).flatMap gv:=by rw[<-fA hz,<-eJ,gz,<-nN]
  rw[cL,hA,cV];have Hj:=aM 1 (show i+1<=cap from U);have TP:=aM 1 (show(i+1)+(O l-(i+1))<=cap from U);exact atE
 have hz:∀x,O (gv x)=1:=λ_=>rfl;have hp:eG (i*1) hc ((l.drop (i+1)).flatMap gv)=J (hc.take (i*1)++(l.drop (i+1)).flatMap gv++hc.drop (i*1+(O l-(i+1))*1)):=by have e:=cj hz (l.drop (i+1));rw[aC]at e;rw[cG,e];rw[e,cf];have:i+(O l-(i+1))<=cap:=U;have:=aM 1 this;rw[bC]at this;exact this
 have vN:l.eraseIdx i=l.take i++l.drop (i+1):=ir l i;have EV:O (l.eraseIdx i)=i+(O l-(i+1)):=by rw[vN];simp;omega
 have ht:(l.take i).flatMap gv=hc.take (i*1):=by rw[<-fY hz,<-eJ,bI,b9 (aM _ (eC H))]
 by_cases h0:(O l-(i+1)==0)=R
 .have h7:i+(O l-(i+1))<=cap:=U;have h9:¬(cap=i+(O l-(i+1))):=U;have Ux:O l-(i+(O l-(i+1)))=1:=U;have Hj:=aM 1 (show i+(O l-(i+1))+1<=cap from U);have xL:(hc.take (i*1)++(l.drop (i+1)).flatMap gv++hc.drop (i*1+(O l-(i+1))*1)).length=cap*1:=by simp only[aq,ax,aC,cj hz,cf];omega
  have Ei:eG ((i+(O l-(i+1)))*1) (hc.take (i*1)++(l.drop (i+1)).flatMap gv++hc.drop (i*1+(O l-(i+1))*1)) [cg []]=J _:=cG _ _ _ (Es xL);simp+decide-dsimp only[f250,go_sem,ahk,h0,W,F,h4,h5,(U:O l-(i+1)<65536),h7,(U:i+(O l-(i+1))<=O l),h9,Ux,nG,dt,hA,hp,Ei];exact atg
 .have qX:O l-(i+1)=0:=Mf h0
  have Hj:=aM 1 (show i+1<=cap from U);have EI:br.dt h b (if cap=i+1 then 0 else(i+1)*1) 0=J []:=by have:=dt;rw[qX,fJ]at this;rw[this,aX U];rfl
  simp+decide-dsimp only[f250,go_sem,ahk,qX,W,F,h4,h5,(U:i<=O l),(U:¬(cap=i)),(U:O l-i=1),nG,EI,hA,(cG _ _ _ (Es cf):eG (i*1) hc [cg []]=J _)];exact atl
def LW:=RB [(11,[MO z7 8,RX]),(15,[MO z7 8,RX])]
def Qe(h:aE)(Y:Nat)(v:u)(l:List aY)(v':u)(Q:aE)(E:Nat):Prop:=Frame Y v h Q/\(∀b,cu v'=J b->cu v=J b\/(Y<=b/\b<E))/\Own gv 9 1 Q v' l
def sH{l:List aY}{x}(H:i<=O l)(eJ:hc.take (O l*1)=l.flatMap gv)(g1:O l+1<=cap)(g2:O zyQ=cap*1)(g3:zyQ.take (i*1)=hc.take (i*1))(g4:(zyQ.drop (i*1)).take 1=gv x)
 (g5:(zyQ.drop ((i+1)*1)).take ((O l-i)*1)=(l.drop i).flatMap gv):Own gv 9 1 (aI h b (.cells zyQ 9)) (.sl b 0 (O l+1) cap) (l.take i++x::l.drop i):=by
 have hz:∀x,O (gv x)=1:=λ_=>rfl;have dc:(l.take i).flatMap gv=hc.take (i*1):=by rw[<-fY hz,<-eJ,bI,b9 (aM _ H)]
 have hre:(l.take i++x::l.drop i).flatMap gv=hc.take (i*1)++gv x++(l.drop i).flatMap gv:=by rw[bL,bE,dc,aA]
 exact atD
def Wb(x b1 h Y)(L:N h b1=J (.cells (gv x) 9)):UP 251 [FB,int (0:Nat),.sl b1 0 1 1] h Y (Qe h Y (FB) [x]):=by
 have J4:dt h b1 0 (1*1)=J (gv x):=by rw[cL,L];rfl
 have lX:∀x,(gv x).all u.dh=M:=λ_=>rfl;refine az.ac 3 LW func251 ?_;simp+decide-dsimp only[f251,go_sem,Int.ofNat_zero,J4];refine pO λcap gs A hg=>?_;refine QZ ?_;refine⟨Frame.refl.set (.inl (an _)),λb e=> .inr ?_,.inr ⟨Y,cap,_,Z,iA,A,?_,?_⟩⟩;.injection e with e;omega
 .rw[aq,bh];exact hg
 .rw[show[x].length*1=O (gv x) from Z,Ns Z];exact(cy _).symm
def RV(l:List aY)(x b1 b cap hc h Y)(L:N h b1=J (.cells (gv x) 9))(hA:N h b=J (.cells hc 9))(cf:O hc=cap*1)(eJ:hc.take (O l*1)=l.flatMap gv)
 (hr:O l+1<=cap):UP 251 [.sl b 0 (O l) cap,int (O l),.sl b1 0 1 1] h Y (Qe h Y (.sl b 0 (O l) cap) (l.take (O l)++x::l.drop (O l))):=by
 have J4:dt h b1 0 (1*1)=J (gv x):=by rw[cL,L];rfl
 have lX:∀x,(gv x).all u.dh=M:=λ_=>rfl;have hz:∀x,O (gv x)=1:=λ_=>rfl;have hmr:=aM 1 hr;have Lu:(O l+1)*1=O l*1+1:=by rw[bC,dB]
 refine az.ac 3 LW func251 ?_;simp+decide-dsimp only[f251,go_sem,J4,lX,hr,hA,(cG _ _ _ (by rw[cf,hz];omega):eG (O l*1) hc (gv x)=J _)];refine⟨Frame.refl.set (.inr Z),λb e=> .inl e,sH (an _) eJ hr ?_ ?_ ?_ ?_⟩;.simp only[aq,ax,aC,cf,hz];omega
 .rw[aA,aD (by rw[ax,cf];omega),bI,dZ]
 .rw[aA,cx (by rw[ax,cf];omega),aX (Es @ax),cz,aD (by rw[hz];exact an _),aH (by rw[hz];exact an _)]
 .rw[kX,fJ,dJ,jW];rfl
def P8(l:List aY)(K:O l+1<65536)(x b1 b cap hc h Y)(L:N h b1=J (.cells (gv x) 9))(hA:N h b=J (.cells hc 9))(nG:O l<=cap)(cf:O hc=cap*1)(eJ:hc.take (O l*1)=l.flatMap gv)
 (hr:¬O l+1<=cap):UP 251 [.sl b 0 (O l) cap,int (O l),.sl b1 0 1 1] h Y (Qe h Y (.sl b 0 (O l) cap) (l.take (O l)++x::l.drop (O l))):=by
 have J4:dt h b1 0 (1*1)=J (gv x):=by rw[cL,L];rfl
 have lX:∀x,(gv x).all u.dh=M:=λ_=>rfl;have hz:∀x,O (gv x)=1:=λ_=>rfl;have jL:br.dt h b 0 (O l*1)=J (l.flatMap gv):=by rw[cL,hA,cV,iq,aT,bZ _ _ (cf▸(aM _ nG)),eJ]
 refine az.ac 3 LW func251 ?_;simp+decide-dsimp only[f251,go_sem,J4,jL,hr,K];refine pO λtq gs A hg=>?_;refine QZ ?_;have mn:O (l.flatMap gv)=O l*1:=cj hz l;refine⟨Frame.refl.set (.inl (an _)),λb e=> .inr ?_,sH (an _) eJ A ?_ ?_ ?_ ?_⟩;.injection e with e;omega
 .simp only[aq,bh,hz,mn]at hg⊢;exact hg
 .rw[aA,aD (by rw[mn];exact an _),aH (by rw[mn];exact an _),eJ]
 .rw[aA,<-mn,cx (an _),jW,cz,aD (by rw[hz];exact an _),aH (by rw[hz];exact an _)]
 .rw[kX,fJ,dJ,jW];rfl
def Rg(l:List aY)(K:O l+1<65536)(i:Nat)(yo:i<O l)(x b1 b cap hc h Y)(D:¬(b1=b))(L:N h b1=J (.cells (gv x) 9))(hA:N h b=J (.cells hc 9))(cf:O hc=cap*1)(eJ:hc.take (O l*1)=l.flatMap gv)
 (hr:O l+1<=cap):UP 251 [.sl b 0 (O l) cap,int i,.sl b1 0 1 1] h Y (Qe h Y (.sl b 0 (O l) cap) (l.take i++x::l.drop i)):=by
 have lX:∀x,(gv x).all u.dh=M:=λ_=>rfl;have hz:∀x,O (gv x)=1:=λ_=>rfl;have WH:dC (1*1) (gv x)=J (gv x):=rfl;have H:i<=O l:=eC yo;have zF:¬(cap=i):=U;have Gu:i<=O l+1:=U;have wX:Nat.min 1 (O l+1-i)=1:=by show min _ _=_;omega
 have Bh:Nat.min (O l+1-i) (O l-i)=O l-i:=by show min _ _=_;omega
 have hM:O ((l.drop i).flatMap gv)=(O l-i)*1:=by rw[cj hz,aC]
 have VX:(hc.drop (i*1)).take ((O l-i)*1)=(l.drop i).flatMap gv:=by rw[<-fA hz,<-eJ,gz,<-nN]
 have hmr:=aM 1 hr;have hmn:i*1+(O l-i)*1=O l*1:=by rw[<-bC];congr 1;omega
 have Th:(O l+1)*1=O l*1+1:=by rw[bC,dB]
 have Jr:(i+1)*1=i*1+1:=by rw[bC,dB]
 have Wk:(O l+1-i)*1=(O l-i)*1+1:=by rw[show O l+1-i=(O l-i)+1 from U,bC,dB]
 have EP:eG ((i+1)*1) hc ((l.drop i).flatMap gv)=J _:=cG _ _ _ (by rw[hM,cf];omega);rw[hM]at EP;have uq:(hc.take ((i+1)*1)++(l.drop i).flatMap gv++hc.drop ((i+1)*1+(O l-i)*1)).length=cap*1:=by simp only[aq,ax,aC,hM,cf];omega
 generalize wg:hc.take ((i+1)*1)++(l.drop i).flatMap gv++hc.drop ((i+1)*1+(O l-i)*1)=A1 at EP uq;have De:∀o,br.dt (aI h b o) b1 0 (1*1)=J (gv x):=λo=>by rw[cL,Xg D,L];rfl
 have hv2:j8 h b=M:=by
  exact atW
 refine az.ac 3 LW func251 (PV f251.eq_1 H (U:¬((i:Int)=(O l:Int))) (U:O l+1<9223372036854775808) (U:¬(cap<O l+1)) ?_);refine asC LW.eq_1 hr D (U:i+1<9223372036854775808) Gu (U:i+1<=O l+1) zF (U:¬(cap=i+1)) (U:O l+1-(i+1)=O l-i) (by simp[j8,L,AO.cells?,gv]:j8 h b1=M) hv2 ?_;refine Ik Gu hA (by rw[cL,hA,cV,eY _ _ U,aT,bZ _ _ (by rw[aC,cf];omega)]:br.dt h b (i*1) ((O l+1-i)*1)=J ((hc.drop (i*1)).take ((O l+1-i)*1))) (by rw[bZ _ _ (by rw[ax,aC,cf];omega),bI,b9 U,VX]:dC ((O l-i)*1) ((hc.drop (i*1)).take ((O l+1-i)*1))=J ((l.drop i).flatMap gv)) Bh (gr:(O l-i==0)=R) EP zF ?_;refine PV lX De wX WH (cG _ _ _ (by rw[uq,hz];omega):eG (i*1) A1 (gv x)=J _) ?_;refine⟨(Frame.refl.set (.inr Z)).set (.inr Z),λb e=> .inl e,sH H eJ hr ?_ ?_ ?_ ?_⟩;.simp only[aq,ax,aC,uq,hz];omega
 .rw[aA,aD (by rw[ax,uq];omega),bI,dZ,<-wg,aA,aD (by rw[ax,cf];omega),bI,b9 U]
 .rw[aA,cx (by rw[ax,uq];omega),aX (Es @ax),cz,aD (by rw[hz];exact an _),aH (by rw[hz];exact an _)]
 .rw[dr2 (by rw[ax,uq,hz];omega),hz,<-Jr,<-wg,aA,XZ (by rw[ax,cf];omega),Ns hM]
def QP(l:List aY)(K:O l+1<65536)(i:Nat)(yo:i<O l)(x b1 b cap hc h Y)(KO:b<Y)(amg:b1<Y)(L:N h b1=J (.cells (gv x) 9))(hA:N h b=J (.cells hc 9))(nG:O l<=cap)(cf:O hc=cap*1)(eJ:hc.take (O l*1)=l.flatMap gv)
 (hr:¬O l+1<=cap):UP 251 [.sl b 0 (O l) cap,int i,.sl b1 0 1 1] h Y (Qe h Y (.sl b 0 (O l) cap) (l.take i++x::l.drop i)):=by
 have lX:∀x,(gv x).all u.dh=M:=λ_=>rfl;have hz:∀x,O (gv x)=1:=λ_=>rfl;have WH:dC (1*1) (gv x)=J (gv x):=rfl;have H:i<=O l:=eC yo;have OU:O l+1<9223372036854775808:=U;have Gu:i<=O l+1:=U;have wX:Nat.min 1 (O l+1-i)=1:=by show min _ _=_;omega
 have hM:O ((l.drop i).flatMap gv)=(O l-i)*1:=by rw[cj hz,aC]
 have VX:(hc.drop (i*1)).take ((O l-i)*1)=(l.drop i).flatMap gv:=by rw[<-fA hz,<-eJ,gz,<-nN]
 have hmi:=aM 1 H;have hmc:=aM 1 nG;have hmn:i*1+(O l-i)*1=O l*1:=by rw[<-bC];congr 1;omega
 have Th:(O l+1)*1=O l*1+1:=by rw[bC,dB]
 have Jr:(i+1)*1=i*1+1:=by rw[bC,dB]
 have Wk:(O l+1-i)*1=(O l-i)*1+1:=by rw[show O l+1-i=(O l-i)+1 from U,bC,dB]
 have hBl:(hc.take (i*1)++gT (O l+1-i) [cg []]).length=(O l+1)*1:=by rw[aq,ax,vO];show _+_*1=_;omega
 refine az.ac 3 LW func251 (PV f251.eq_1 H (U:¬((i:Int)=(O l:Int))) OU (U:cap<O l+1) ?_);refine asA Gu (U:i<=cap) OU (U:O l+1-i<65536) (gr:(O l+1-i==0)=R) (U:i+(O l+1-i)=O l+1) hr K (by rw[cL,hA,cV,iq,aT,bZ _ _ U]:br.dt h b 0 (i*1)=J (hc.take (i*1))) ?_;refine pO λtq gs A hg=>?_;rw[<-aq,hBl]at hg;have Gg:(hc.take (i*1)++gT (O l+1-i) [cg []]++gs.map u.g).length=tq*1:=by rw[aq,hBl,bh];exact hg
 have hBt:(hc.take (i*1)++gT (O l+1-i) [cg []]++gs.map u.g).take (i*1)=hc.take (i*1):=by rw[aA,aD (Es @ax),bI,dZ]
 have hmc':=aM 1 A;generalize hBe:hc.take (i*1)++gT (O l+1-i) [cg []]++gs.map u.g=zyQ at Gg hBt;have EP:eG (i*1) zyQ (gv x)=J _:=cG _ _ _ (by rw[Gg,hz];omega);have uq:(zyQ.take (i*1)++gv x++zyQ.drop (i*1+O (gv x))).length=tq*1:=by simp only[aq,ax,aC,hz,Gg];omega
 generalize wg:zyQ.take (i*1)++gv x++zyQ.drop (i*1+O (gv x))=A1 at EP uq;have De:∀o,br.dt (aI h Y o) b1 0 (1*1)=J (gv x):=λo=>by rw[cL,Xg,L];rfl
 have hl5:∀o o',br.dt (aI (aI h Y o) Y o') b (i*1) ((O l-i)*1)=J ((l.drop i).flatMap gv):=λo o'=>by rw[cL,Xg,Xg,hA,cV,eY _ _ U,aT,bZ _ _ (Es @aC),VX]
 have ht5:dC ((O l-i)*1) ((l.drop i).flatMap gv)=J ((l.drop i).flatMap gv):=by rw[bZ _ _ (by rw[hM];exact an _),aH (by rw[hM];exact an _)]
 refine YM lX Gu (U:¬(tq=i)) wX De WH EP ?_;simp+decide-dsimp only[go_sem,LW,H,(U:i+1<=O l+1),(U:i+1<9223372036854775808),(U:¬(cap=i)),(U:¬(tq=i+1)),(U:O l+1-(i+1)=O l-i),(dZ _:Nat.min (O l-i) (O l-i)=O l-i),(gr:(O l-i==0)=R),hl5,ht5,(cG _ _ _ (by rw[hM,uq];omega):eG ((i+1)*1) A1 ((l.drop i).flatMap gv)=J _)];refine⟨Frame.set (Frame.set (Frame.set Frame.refl ?_) ?_) ?_,λb e=> .inr ?_,sH H eJ A ?_ ?_ ?_ ?_⟩;.exact .inl (an _)
 .exact .inl (an _)
 .exact .inl (an _)
 .injection e with e;omega
 .simp only[aq,ax,aC,uq,hM];omega
 .rw[aA,aD (by rw[ax,uq];omega),bI,b9 U,<-wg,aA,aD (by rw[ax,Gg];omega),bI,dZ,hBt]
 .have hAt:A1.take ((i+1)*1)=zyQ.take (i*1)++gv x:=by rw[<-wg];exact Ns (by rw[aq,ax,Gg,hz];omega)
  rw[hAt,aA,aA,XZ (by rw[ax,Gg];omega),Ns (hz x)]
 .rw[aA,XZ (by rw[ax,uq];omega),Ns hM]
def afS(l:List aY)(K:O l+1<65536)(v)(i:Nat)(H:i<=O l)(x b1 h Y)(ho:Own gv 9 1 h v l)(mO:In 0 Y v)
 (V7:b1<Y) (cD:cu v≠J b1) (L:N h b1=J (.cells (gv x) 9)):
 UP 251 [v,int i,.sl b1 0 1 1] h Y (Qe h Y v (l.take i++x::l.drop i)):=by
 obtain⟨rfl,rfl⟩|⟨b,cap,hc,rfl,hA,nG,cf,eJ⟩:=ho
 .have:i=0:=Mf H
  subst this;exact Wb x b1 h Y L
 by_cases JR:i=O l
 .subst JR;by_cases hr:O l+1<=cap;.exact RV l x b1 b cap hc h Y L hA cf eJ hr
  .exact P8 l K x b1 b cap hc h Y L hA nG cf eJ hr
 .by_cases hr:O l+1<=cap;.exact Rg l K i U x b1 b cap hc h Y (λe=>cD (by rw[e];rfl)) L hA cf eJ hr
  .exact QP l K i U x b1 b cap hc h Y ((mO b Z).2) V7 L hA nG cf eJ hr
def a40(l:List UInt8)(K:O l<65536)(h Y):UP 40 [Lk jU l] h Y λv Q E=>aG Y h Q/\In Y E v/\Own jU 5 1 Q v l:=by
 by_cases hn:(O l==0)=R
 .refine az.ac 1 T0 func40 ?_
  refine PV f40.eq_1 hn K (Mf hn:¬(O l<=0)) (λo e=>by rw[cL,Sr,cV,iq,aT,qR]:∀o e,dt (aI h Y (.cells o e)) Y 0 0=J []) ?_;refine pO λcap gs A hg=>?_;refine QZ ?_;exact⟨(aG.refl.set (an _)).set (bG _),.sl (bG _) (aZ _),.inr ⟨_,cap,_,Z,iA,A,by simp only[aq,bh,D7];exact hg,
   by rw[aD (by rw[D7];exact an _),aH (by rw[D7];exact an _)]⟩⟩
 .have:l=[]:=by cases l with
   |nil=>rfl
   |cons x l=>exact absurd Z hn
  subst this;refine .empty ?_ ?_;.refine az.ac 1 T0 func40 (Xf f40.eq_1 ?_);exact⟨.refl,.nil,.inl ⟨Z,Z⟩⟩
  .refine az.ac 1 T0 func40 (Xf f40.eq_1 ?_);exact aui
def agA:=RB [(5,[MO z5 6,MO [] 7,RX])]
def aqx(l:List UInt8)(K:O l<65536)(v)(i:Nat)(H:i<O l)(h Y)(ho:Own jU 5 1 h v l)(mO:In 0 Y v):
 UP 367 [v,int i,int (i+1:Nat)] h Y λv' Q E=>Frame Y v h Q/\cu v'=cu v/\Own jU 5 1 Q v' (l.eraseIdx i):=by
 rcases ho with⟨rfl,rfl⟩|⟨b,cap,hc,rfl,hA,nG,cf,eJ⟩;.simp at H
 refine az.ac 3 agA func367 ?_;have W:i+1<=O l:=H;have F:i<=i+1:=bG i;have h3:O l<=O l:=an _;have h4:¬((i:Int)=((i+1:Nat):Int)):=U;have h5:i<=cap:=U;have dt:br.dt h b (if cap=i+1 then 0 else(i+1)*1) ((O l-(i+1))*1)=J ((l.drop (i+1)).flatMap jU):=by
  have hz:∀x,O (jU x)=1:=λ_=>rfl;have e1:(hc.drop ((i+1)*1)).take ((O l-(i+1))*1)=(l.drop (i+1)).flatMap jU:=by rw[<-fA hz,<-eJ,gz,<-nN]
  rw[cL,hA,cV];have Hj:=aM 1 (show i+1<=cap from U);have TP:=aM 1 (show(i+1)+(O l-(i+1))<=cap from U);exact atE
 have hz:∀x,O (jU x)=1:=λ_=>rfl;have hp:eG (i*1) hc ((l.drop (i+1)).flatMap jU)=J (hc.take (i*1)++(l.drop (i+1)).flatMap jU++hc.drop (i*1+(O l-(i+1))*1)):=by have e:=cj hz (l.drop (i+1));rw[aC]at e;rw[cG,e];rw[e,cf];have:i+(O l-(i+1))<=cap:=U;have:=aM 1 this;rw[bC]at this;exact this
 have vN:l.eraseIdx i=l.take i++l.drop (i+1):=ir l i;have EV:O (l.eraseIdx i)=i+(O l-(i+1)):=by rw[vN];simp;omega
 have ht:(l.take i).flatMap jU=hc.take (i*1):=by rw[<-fY hz,<-eJ,bI,b9 (aM _ (eC H))]
 by_cases h0:(O l-(i+1)==0)=R
 .have h7:i+(O l-(i+1))<=cap:=U;have h9:¬(cap=i+(O l-(i+1))):=U;have Ux:O l-(i+(O l-(i+1)))=1:=U;have Hj:=aM 1 (show i+(O l-(i+1))+1<=cap from U);have xL:(hc.take (i*1)++(l.drop (i+1)).flatMap jU++hc.drop (i*1+(O l-(i+1))*1)).length=cap*1:=by simp only[aq,ax,aC,cj hz,cf];omega
  have Ei:eG ((i+(O l-(i+1)))*1) (hc.take (i*1)++(l.drop (i+1)).flatMap jU++hc.drop (i*1+(O l-(i+1))*1)) [u8 0]=J _:=cG _ _ _ (Es xL);simp+decide-dsimp only[f367,go_sem,agA,h0,W,F,h4,h5,(U:O l-(i+1)<65536),h7,(U:i+(O l-(i+1))<=O l),h9,Ux,nG,dt,hA,hp,Ei];exact atg
 .have qX:O l-(i+1)=0:=Mf h0
  have Hj:=aM 1 (show i+1<=cap from U);have EI:br.dt h b (if cap=i+1 then 0 else(i+1)*1) 0=J []:=by have:=dt;rw[qX,fJ]at this;rw[this,aX U];rfl
  simp+decide-dsimp only[f367,go_sem,agA,qX,W,F,h4,h5,(U:i<=O l),(U:¬(cap=i)),(U:O l-i=1),nG,EI,hA,(cG _ _ _ (Es cf):eG (i*1) hc [u8 0]=J _)];exact atl
def Ml:=RB [(11,[MO z7 8,RX]),(15,[MO z7 8,RX])]
def QH(h:aE)(Y:Nat)(v:u)(l:List UInt8)(v':u)(Q:aE)(E:Nat):Prop:=Frame Y v h Q/\(∀b,cu v'=J b->cu v=J b\/(Y<=b/\b<E))/\Own jU 5 1 Q v' l
def sL{l:List UInt8}{x}(H:i<=O l)(eJ:hc.take (O l*1)=l.flatMap jU)(g1:O l+1<=cap)(g2:O zyQ=cap*1)(g3:zyQ.take (i*1)=hc.take (i*1))(g4:(zyQ.drop (i*1)).take 1=jU x)
 (g5:(zyQ.drop ((i+1)*1)).take ((O l-i)*1)=(l.drop i).flatMap jU):Own jU 5 1 (aI h b (.cells zyQ 5)) (.sl b 0 (O l+1) cap) (l.take i++x::l.drop i):=by
 have hz:∀x,O (jU x)=1:=λ_=>rfl;have dc:(l.take i).flatMap jU=hc.take (i*1):=by rw[<-fY hz,<-eJ,bI,b9 (aM _ H)]
 have hre:(l.take i++x::l.drop i).flatMap jU=hc.take (i*1)++jU x++(l.drop i).flatMap jU:=by rw[bL,bE,dc,aA]
 exact atD
def Vr(x b1 h Y)(L:N h b1=J (.cells (jU x) 5)):UP 369 [FB,int (0:Nat),.sl b1 0 1 1] h Y (QH h Y (FB) [x]):=by
 have J4:dt h b1 0 (1*1)=J (jU x):=by rw[cL,L];rfl
 have lX:∀x,(jU x).all u.dh=M:=λ_=>rfl;refine az.ac 3 Ml func369 ?_;simp+decide-dsimp only[f369,go_sem,Int.ofNat_zero,J4];refine pO λcap gs A hg=>?_;refine QZ ?_;refine⟨Frame.refl.set (.inl (an _)),λb e=> .inr ?_,.inr ⟨Y,cap,_,Z,iA,A,?_,?_⟩⟩;.injection e with e;omega
 .rw[aq,bh];exact hg
 .rw[show[x].length*1=O (jU x) from Z,Ns Z];exact(cy _).symm
def Qo(l:List UInt8)(x b1 b cap hc h Y)(L:N h b1=J (.cells (jU x) 5))(hA:N h b=J (.cells hc 5))(cf:O hc=cap*1)(eJ:hc.take (O l*1)=l.flatMap jU)
 (hr:O l+1<=cap):UP 369 [.sl b 0 (O l) cap,int (O l),.sl b1 0 1 1] h Y (QH h Y (.sl b 0 (O l) cap) (l.take (O l)++x::l.drop (O l))):=by
 have J4:dt h b1 0 (1*1)=J (jU x):=by rw[cL,L];rfl
 have lX:∀x,(jU x).all u.dh=M:=λ_=>rfl;have hz:∀x,O (jU x)=1:=λ_=>rfl;have hmr:=aM 1 hr;have Lu:(O l+1)*1=O l*1+1:=by rw[bC,dB]
 refine az.ac 3 Ml func369 ?_;simp+decide-dsimp only[f369,go_sem,J4,lX,hr,hA,(cG _ _ _ (by rw[cf,hz];omega):eG (O l*1) hc (jU x)=J _)];refine⟨Frame.refl.set (.inr Z),λb e=> .inl e,sL (an _) eJ hr ?_ ?_ ?_ ?_⟩;.simp only[aq,ax,aC,cf,hz];omega
 .rw[aA,aD (by rw[ax,cf];omega),bI,dZ]
 .rw[aA,cx (by rw[ax,cf];omega),aX (Es @ax),cz,aD (by rw[hz];exact an _),aH (by rw[hz];exact an _)]
 .rw[kX,fJ,dJ,jW];rfl
def QT(l:List UInt8)(K:O l+1<65536)(x b1 b cap hc h Y)(L:N h b1=J (.cells (jU x) 5))(hA:N h b=J (.cells hc 5))(nG:O l<=cap)(cf:O hc=cap*1)(eJ:hc.take (O l*1)=l.flatMap jU)
 (hr:¬O l+1<=cap):UP 369 [.sl b 0 (O l) cap,int (O l),.sl b1 0 1 1] h Y (QH h Y (.sl b 0 (O l) cap) (l.take (O l)++x::l.drop (O l))):=by
 have J4:dt h b1 0 (1*1)=J (jU x):=by rw[cL,L];rfl
 have lX:∀x,(jU x).all u.dh=M:=λ_=>rfl;have hz:∀x,O (jU x)=1:=λ_=>rfl;have jL:br.dt h b 0 (O l*1)=J (l.flatMap jU):=by rw[cL,hA,cV,iq,aT,bZ _ _ (cf▸(aM _ nG)),eJ]
 refine az.ac 3 Ml func369 ?_;simp+decide-dsimp only[f369,go_sem,J4,jL,hr,K];refine pO λtq gs A hg=>?_;refine QZ ?_;have mn:O (l.flatMap jU)=O l*1:=cj hz l;refine⟨Frame.refl.set (.inl (an _)),λb e=> .inr ?_,sL (an _) eJ A ?_ ?_ ?_ ?_⟩;.injection e with e;omega
 .simp only[aq,bh,hz,mn]at hg⊢;exact hg
 .rw[aA,aD (by rw[mn];exact an _),aH (by rw[mn];exact an _),eJ]
 .rw[aA,<-mn,cx (an _),jW,cz,aD (by rw[hz];exact an _),aH (by rw[hz];exact an _)]
 .rw[kX,fJ,dJ,jW];rfl
def RZ(l:List UInt8)(K:O l+1<65536)(i:Nat)(yo:i<O l)(x b1 b cap hc h Y)(D:¬(b1=b))(L:N h b1=J (.cells (jU x) 5))(hA:N h b=J (.cells hc 5))(cf:O hc=cap*1)(eJ:hc.take (O l*1)=l.flatMap jU)
 (hr:O l+1<=cap):UP 369 [.sl b 0 (O l) cap,int i,.sl b1 0 1 1] h Y (QH h Y (.sl b 0 (O l) cap) (l.take i++x::l.drop i)):=by
 have lX:∀x,(jU x).all u.dh=M:=λ_=>rfl;have hz:∀x,O (jU x)=1:=λ_=>rfl;have WH:dC (1*1) (jU x)=J (jU x):=rfl;have H:i<=O l:=eC yo;have zF:¬(cap=i):=U;have Gu:i<=O l+1:=U;have wX:Nat.min 1 (O l+1-i)=1:=by show min _ _=_;omega
 have Bh:Nat.min (O l+1-i) (O l-i)=O l-i:=by show min _ _=_;omega
 have hM:O ((l.drop i).flatMap jU)=(O l-i)*1:=by rw[cj hz,aC]
 have VX:(hc.drop (i*1)).take ((O l-i)*1)=(l.drop i).flatMap jU:=by rw[<-fA hz,<-eJ,gz,<-nN]
 have hmr:=aM 1 hr;have hmn:i*1+(O l-i)*1=O l*1:=by rw[<-bC];congr 1;omega
 have Th:(O l+1)*1=O l*1+1:=by rw[bC,dB]
 have Jr:(i+1)*1=i*1+1:=by rw[bC,dB]
 have Wk:(O l+1-i)*1=(O l-i)*1+1:=by rw[show O l+1-i=(O l-i)+1 from U,bC,dB]
 have EP:eG ((i+1)*1) hc ((l.drop i).flatMap jU)=J _:=cG _ _ _ (by rw[hM,cf];omega);rw[hM]at EP;have uq:(hc.take ((i+1)*1)++(l.drop i).flatMap jU++hc.drop ((i+1)*1+(O l-i)*1)).length=cap*1:=by simp only[aq,ax,aC,hM,cf];omega
 generalize wg:hc.take ((i+1)*1)++(l.drop i).flatMap jU++hc.drop ((i+1)*1+(O l-i)*1)=A1 at EP uq;have De:∀o,br.dt (aI h b o) b1 0 (1*1)=J (jU x):=λo=>by rw[cL,Xg D,L];rfl
 have hv2:j8 h b=M:=by
  exact atW
 refine az.ac 3 Ml func369 (PV f369.eq_1 H (U:¬((i:Int)=(O l:Int))) (U:O l+1<9223372036854775808) (U:¬(cap<O l+1)) ?_);refine asC Ml.eq_1 hr D (U:i+1<9223372036854775808) Gu (U:i+1<=O l+1) zF (U:¬(cap=i+1)) (U:O l+1-(i+1)=O l-i) (by simp[j8,L,AO.cells?,jU]:j8 h b1=M) hv2 ?_;refine Ik Gu hA (by rw[cL,hA,cV,eY _ _ U,aT,bZ _ _ (by rw[aC,cf];omega)]:br.dt h b (i*1) ((O l+1-i)*1)=J ((hc.drop (i*1)).take ((O l+1-i)*1))) (by rw[bZ _ _ (by rw[ax,aC,cf];omega),bI,b9 U,VX]:dC ((O l-i)*1) ((hc.drop (i*1)).take ((O l+1-i)*1))=J ((l.drop i).flatMap jU)) Bh (gr:(O l-i==0)=R) EP zF ?_;refine PV lX De wX WH (cG _ _ _ (by rw[uq,hz];omega):eG (i*1) A1 (jU x)=J _) ?_;refine⟨(Frame.refl.set (.inr Z)).set (.inr Z),λb e=> .inl e,sL H eJ hr ?_ ?_ ?_ ?_⟩;.simp only[aq,ax,aC,uq,hz];omega
 .rw[aA,aD (by rw[ax,uq];omega),bI,dZ,<-wg,aA,aD (by rw[ax,cf];omega),bI,b9 U]
 .rw[aA,cx (by rw[ax,uq];omega),aX (Es @ax),cz,aD (by rw[hz];exact an _),aH (by rw[hz];exact an _)]
 .rw[dr2 (by rw[ax,uq,hz];omega),hz,<-Jr,<-wg,aA,XZ (by rw[ax,cf];omega),Ns hM]
def Sf(l:List UInt8)(K:O l+1<65536)(i:Nat)(yo:i<O l)(x b1 b cap hc h Y)(KO:b<Y)(amg:b1<Y)(L:N h b1=J (.cells (jU x) 5))(hA:N h b=J (.cells hc 5))(nG:O l<=cap)(cf:O hc=cap*1)(eJ:hc.take (O l*1)=l.flatMap jU)
 (hr:¬O l+1<=cap):UP 369 [.sl b 0 (O l) cap,int i,.sl b1 0 1 1] h Y (QH h Y (.sl b 0 (O l) cap) (l.take i++x::l.drop i)):=by
 have lX:∀x,(jU x).all u.dh=M:=λ_=>rfl;have hz:∀x,O (jU x)=1:=λ_=>rfl;have WH:dC (1*1) (jU x)=J (jU x):=rfl;have H:i<=O l:=eC yo;have OU:O l+1<9223372036854775808:=U;have Gu:i<=O l+1:=U;have wX:Nat.min 1 (O l+1-i)=1:=by show min _ _=_;omega
 have hM:O ((l.drop i).flatMap jU)=(O l-i)*1:=by rw[cj hz,aC]
 have VX:(hc.drop (i*1)).take ((O l-i)*1)=(l.drop i).flatMap jU:=by rw[<-fA hz,<-eJ,gz,<-nN]
 have hmi:=aM 1 H;have hmc:=aM 1 nG;have hmn:i*1+(O l-i)*1=O l*1:=by rw[<-bC];congr 1;omega
 have Th:(O l+1)*1=O l*1+1:=by rw[bC,dB]
 have Jr:(i+1)*1=i*1+1:=by rw[bC,dB]
 have Wk:(O l+1-i)*1=(O l-i)*1+1:=by rw[show O l+1-i=(O l-i)+1 from U,bC,dB]
 have hBl:(hc.take (i*1)++gT (O l+1-i) [u8 0]).length=(O l+1)*1:=by rw[aq,ax,vO];show _+_*1=_;omega
 refine az.ac 3 Ml func369 (PV f369.eq_1 H (U:¬((i:Int)=(O l:Int))) OU (U:cap<O l+1) ?_);refine asA Gu (U:i<=cap) OU (U:O l+1-i<65536) (gr:(O l+1-i==0)=R) (U:i+(O l+1-i)=O l+1) hr K (by rw[cL,hA,cV,iq,aT,bZ _ _ U]:br.dt h b 0 (i*1)=J (hc.take (i*1))) ?_;refine pO λtq gs A hg=>?_;rw[<-aq,hBl]at hg;have Gg:(hc.take (i*1)++gT (O l+1-i) [u8 0]++gs.map u.g).length=tq*1:=by rw[aq,hBl,bh];exact hg
 have hBt:(hc.take (i*1)++gT (O l+1-i) [u8 0]++gs.map u.g).take (i*1)=hc.take (i*1):=by rw[aA,aD (Es @ax),bI,dZ]
 have hmc':=aM 1 A;generalize hBe:hc.take (i*1)++gT (O l+1-i) [u8 0]++gs.map u.g=zyQ at Gg hBt;have EP:eG (i*1) zyQ (jU x)=J _:=cG _ _ _ (by rw[Gg,hz];omega);have uq:(zyQ.take (i*1)++jU x++zyQ.drop (i*1+O (jU x))).length=tq*1:=by simp only[aq,ax,aC,hz,Gg];omega
 generalize wg:zyQ.take (i*1)++jU x++zyQ.drop (i*1+O (jU x))=A1 at EP uq;have De:∀o,br.dt (aI h Y o) b1 0 (1*1)=J (jU x):=λo=>by rw[cL,Xg,L];rfl
 have hl5:∀o o',br.dt (aI (aI h Y o) Y o') b (i*1) ((O l-i)*1)=J ((l.drop i).flatMap jU):=λo o'=>by rw[cL,Xg,Xg,hA,cV,eY _ _ U,aT,bZ _ _ (Es @aC),VX]
 have ht5:dC ((O l-i)*1) ((l.drop i).flatMap jU)=J ((l.drop i).flatMap jU):=by rw[bZ _ _ (by rw[hM];exact an _),aH (by rw[hM];exact an _)]
 refine YM lX Gu (U:¬(tq=i)) wX De WH EP ?_;simp+decide-dsimp only[go_sem,Ml,H,(U:i+1<=O l+1),(U:i+1<9223372036854775808),(U:¬(cap=i)),(U:¬(tq=i+1)),(U:O l+1-(i+1)=O l-i),(dZ _:Nat.min (O l-i) (O l-i)=O l-i),(gr:(O l-i==0)=R),hl5,ht5,(cG _ _ _ (by rw[hM,uq];omega):eG ((i+1)*1) A1 ((l.drop i).flatMap jU)=J _)];refine⟨Frame.set (Frame.set (Frame.set Frame.refl ?_) ?_) ?_,λb e=> .inr ?_,sL H eJ A ?_ ?_ ?_ ?_⟩;.exact .inl (an _)
 .exact .inl (an _)
 .exact .inl (an _)
 .injection e with e;omega
 .simp only[aq,ax,aC,uq,hM];omega
 .rw[aA,aD (by rw[ax,uq];omega),bI,b9 U,<-wg,aA,aD (by rw[ax,Gg];omega),bI,dZ,hBt]
 .have hAt:A1.take ((i+1)*1)=zyQ.take (i*1)++jU x:=by rw[<-wg];exact Ns (by rw[aq,ax,Gg,hz];omega)
  rw[hAt,aA,aA,XZ (by rw[ax,Gg];omega),Ns (hz x)]
 .rw[aA,XZ (by rw[ax,uq];omega),Ns hM]
def aow(l:List UInt8)(K:O l+1<65536)(v)(i:Nat)(H:i<=O l)(x b1 h Y)(ho:Own jU 5 1 h v l)(mO:In 0 Y v)
 (V7:b1<Y) (cD:cu v≠J b1) (L:N h b1=J (.cells (jU x) 5)):
 UP 369 [v,int i,.sl b1 0 1 1] h Y (QH h Y v (l.take i++x::l.drop i)):=by
 obtain⟨rfl,rfl⟩|⟨b,cap,hc,rfl,hA,nG,cf,eJ⟩:=ho
 .have:i=0:=Mf H
  subst this;exact Vr x b1 h Y L
 by_cases JR:i=O l
 .subst JR;by_cases hr:O l+1<=cap;.exact Qo l x b1 b cap hc h Y L hA cf eJ hr
  .exact QT l K x b1 b cap hc h Y L hA nG cf eJ hr
 .by_cases hr:O l+1<=cap;.exact RZ l K i U x b1 b cap hc h Y (λe=>cD (by rw[e];rfl)) L hA cf eJ hr
  .exact Sf l K i U x b1 b cap hc h Y ((mO b Z).2) V7 L hA nG cf eJ hr
end
end br
end Go.Proofs.YtonnifoeokagjaaGreat
