/- Parts: Rows that a function owns and appends to; what slices read; Short ways for the calculus; Ranges over a function; Rows of many cells an element; strings. No condition. -/
import Derived.Test.YthafakdplhdfjaaGreatDoorHf00
import Derived.Laws.OwnMore
import Derived.Laws.Externs
import Derived.Lib.Bytealg
import Derived.RangeFuncSeq
import Derived.RangeFuncRecord
import Derived.RangeFuncLeaves
import Derived.Laws.CopyRow
import Derived.Laws.Pointers
import Derived.Lib.Builder
import Derived.Lib.MakeNoZero
import Derived.Lib.UnsafeStr
import Derived.Lib.AppendStr
set_option maxRecDepth 100000
namespace Go.Eng
open Go.RowKit
variable{P:Program}{Q:Exit→Act→World→Prop}{N:Fm}{l:zav}{H:World→Prop}{ops:Array Oper}{rest:List Oper}{w0:World}{F:Nat→Prop}{m:List Item}{ty:TypeId}{pos:String}{after:Array Edge}{g:Option (Nat×Bool)}{d:Nat}
def slV:Option (Nat×Nat)→Nat→Value
 |none,_=>.slice none 0 0
 |some (b,c),n=>.slice (some ⟨b,0,none⟩) n c
def own(e:TypeId)(sz:Nat)(o:Option (Nat×Nat))(n:Nat)(xs:List Value):Item:=
 ⟨fun k=>∃c,o=some (k,c),fun w=>xs.length=n*sz∧(match o with
  |none=>n=0
  |some (b,c)=>n≤c∧c≤maxLen∧∃cur:Array Value,w.heap[b]? =some (.cells cur e (0,0))∧cur.size=c*sz∧cur.toList.take (n*sz)=xs)⟩
theorem zac(ro:Nat→Prop)(e:TypeId)(sz:Nat)(o:Option (Nat×Nat))(n:Nat)(xs:List Value):(own e sz o n xs).Stable ro:=by
 intro w w' h hp
 refine⟨hp.1,?_⟩
 match o,hp with
 |none,hp=>exact hp.2
 |some (b,c),hp=>
  obtain⟨h1,h2,cur,h3,h4⟩:=hp.2
  exact⟨h1,h2,cur,by rw[h b (.inr ⟨c,rfl⟩),h3],h4⟩
variable{w:World}{e:TypeId}{sz n:Nat}{o:Option (Nat×Nat)}{xs:List Value}
theorem zvn(h:(own e sz o n xs).prop w):w.ownsRow 0 e sz (slV o n) n xs:=by
 refine⟨h.1,?_⟩
 match o,h with
 |none,h=>exact .inl ⟨rfl,h.2⟩
 |some (b,c),h=>
  obtain⟨h1,h2,cur,h3,h4,h5⟩:=h.2
  exact .inr ⟨b,c,cur,rfl,aZ _,h3,h1,h2,h4,h5⟩
def Rd(w:World)(a:Option Addr)(xs:List Value):Prop:=xs=[]∨∃b off,a=some ⟨b,off,none⟩∧∀(j:Nat) (u:Value),xs[j]? =some u→w.cell? ⟨b,off+j,none⟩=some u
theorem zde(b off j:Nat):(⟨b,off,none⟩:Addr).add j=⟨b,off+j,none⟩:=by unfold Addr.add;split<;>simp_all
theorem zby{b c:Nat}(h:(own e sz (some (b,c)) n xs).prop w):∀(j:Nat) (u:Value),xs[j]? =some u→w.cell? ⟨b,j,none⟩=some u:=by
 intro j u hu
 have:=(zvn h).cells (g:=b) rfl j u hu
 rwa[zde,aH]at this
variable{a:Option Addr}
theorem Rd.keep(h:Rd w0 a xs)(hw:Hp w0 none' m w):Rd w a xs:=by
 rcases h with h|⟨b,off,h1,h2⟩
 ·exact .inl h
 ·exact .inr ⟨b,off,h1,fun j u hu=>hw.old (fun h=>h) (h2 j u hu)⟩
theorem Rd.fr(h:Rd w0 a xs)(hw:Fr none' w0 w):Rd w a xs:=by
 rcases h with h|⟨b,off,h1,h2⟩
 ·exact .inl h
 ·exact .inr ⟨b,off,h1,fun j u hu=>by
   have hv:=h2 j u hu
   rw[←hv]
   exact World.cell?_of_block (w:=w0) (hw.block b (World.block_lt_of_cell? w0 _ hv) (fun h=>h))⟩
def slA:Option (Nat×Nat)→Option Addr
 |none=>none
 |some (b,_)=>some ⟨b,0,none⟩
def slC:Option (Nat×Nat)→Nat
 |none=>0
 |some (_,c)=>c
theorem za8(h:(own e sz o n xs).prop w):Rd w (slA o) xs:=by
 match o,h with
 |none,h=>exact .inl (bQ (by have h1:=h.1;have h2:n=0:=h.2;simpa[h2]using h1))
 |some (b,c),h=>exact .inr ⟨b,0,rfl,fun j u hu=>by rw[aH];exact zby h j u hu⟩
theorem zas(h:(own e sz o n xs).prop w):slV o n= .slice (slA o) n (slC o)∧n≤slC o:=by
 match o,h with
 |none,h=>have h2:n=0:=h.2;subst h2;exact⟨rfl,bA _⟩
 |some (b,c),h=>exact⟨rfl,h.2.1⟩
theorem zlc{w':World}{o':Option (Nat×Nat)}(hp:(own e sz o' n xs).prop w')(hf:Fr (fun k=>∃c,o=some (k,c)) w w')(hn:∀b c,o'=some (b,c)→w.heap.size≤b∨∃c',o=some (b,c')):Its (fun k=>∃c,o=some (k,c)) w [own e sz o' n xs] w':=by
 refine⟨hf,fun it hm=>?_,.cons (fun _ h=>by cases h) .nil⟩
 obtain rfl:it=own e sz o' n xs:=by simpa using hm
 refine⟨hp,zac _ _ _ _ _ _,fun k ⟨c,hk⟩=>⟨?_,fun hlt=>?_⟩⟩
 ·subst hk
  obtain⟨-, -,cur,h3, -⟩:=hp.2
  exact(bR.1 h3).1
 ·rcases hn k c hk with h|h
  ·omega
  ·exact h
theorem zk8{w':World}(h1:w'.os=w.os)(h2:w'.tape=w.tape)(h3:w'.output=w.output)(h4:w.heap.size≤w'.heap.size)(h5:∀k,k<w.heap.size→¬F k→w'.heap[k]? =w.heap[k]?):Fr F w w':=⟨h1,h2,h3,h4,h5⟩
variable{z:Value}{a:Addr}
theorem qnk{t ty':TypeId}{i:TypeInfo}(ht:P.underlying t=some (.slice e))(hi:P.info? e=some i)(hz:i.zero=some z)(hzs:z.cells.size=i.size)(_hsz:0<i.size)(hown:(own e i.size o n xs).prop w){k c:Nat}{news:List Value}(hl:news.length=k*i.size)(hnews:∀(j:Nat) u,news[j]? =some u→w.cell? (a.add j)=some u)(h1:∀u∈news,u.oneCell'=true)
  (h63:n+k≤maxLen) (hbytes:(n+k)*i.bytes≤140737488355328):
  ∃o' w',(Builtin.append_ #[t,t] ty' #[slV o n,.slice (some a) k c]).run P w= .ok (slV o' (n+k)) w'∧Its (fun k=>∃c,o=some (k,c)) w [own e i.size o' (n+k) (xs++news)] w':=by
 have hrow:=zvn hown
 have hlen:(xs++news).length=(n+k)*i.size:=by rw[aA,hrow.1,hl,iL]
 have grown:∀(old:Nat),old<n+k→
   Its (fun k=>∃c,o=some (k,c)) w [own e i.size (some (w.heap.size,grownCap w (n+k) old e)) (n+k) (xs++news)] (w.drew.alloc (.cells (xs.toArray++news.toArray++Builtin.zeroCells z.cells (grownCap w (n+k) old e - (n+k))) e)):=by
  intro old ho
  have hge:=grownCap_ge w (n+k) old e
  refine zlc ⟨hlen,hge,grownCap_le_maxLen w (n+k) old e h63,_,heap_alloc_new w.drew _,?_,?_⟩ (zk8 rfl rfl rfl sQ fun j hj _=>Below.heap_alloc w.drew _ j hj) (fun b c' h=>.inl (by cases h;exact bA _))
  ·simp only[kM,aI,size_zeroCells,hzs,hrow.1,hl,←iL]
   congr 1
   omega
  ·simp only[iN,aG]
   rw[←aG,←hlen]
   exact gX
 by_cases hk:k=0
 ·subst hk
  obtain rfl:news=[]:=bQ (by simpa using hl)
  match o,hown with
  |none,hown=>
   obtain rfl:n=0:=hown.2
   refine⟨none,w,?_,?_⟩
   ·simp[Builtin.append_,run_underlying ht,sizeOf,typeInfo,hi,Builtin.lenOf,Builtin.firstCells,slV,loadCells,loadCellsFrom]
   ·rw[bC]
    exact zlc (o:=none) hown (.refl _ _) (fun _ _ h=>by cases h)
  |some (b,cap),hown=>
   obtain⟨h2,h3,cur,h4,h5,h6⟩:=hown.2
   have hr:=run_append_room (P:=P) w t ty' e i ht hi b n cap cur h4 a 0 c [] sQ hnews h1 h2 (by rw[h5];simpa using fH _ h2)
   refine⟨some (b,cap),_,hr,zlc ⟨by simpa using hown.1,h2,h3,_,setRow_heap w b cur _ e _ h4,?_,?_⟩ (zk8 rfl rfl rfl sQ fun j _ hj=>setRow_other w b j _ (fun e=>hj ⟨cap,by rw[e]⟩)) (fun b' c' h=>.inr ⟨c',h⟩)⟩
   ·simp[h5]
   ·rw[fU,bC,bC]
    simp only[h6]
    rw[fO (by simpa using hown.1)]
 match o,hown with
 |none,hown=>
  obtain rfl:n=0:=hown.2
  obtain rfl:xs=[]:=bQ (by simpa using hrow.1)
  have hr:=run_append_nil (P:=P) w t ty' e i z ht hi hz a k c news hl hnews oQ (by simp only[maxLen]at h63;omega) (by have hb:=hbytes;simp only[aH]at hb;omega)
  have hgr:=grown 0 oQ
  simp only[aH,aJ,Array.empty_append]at hgr⊢
  exact⟨some (w.heap.size,grownCap w k 0 e),_,hr,hgr⟩
 |some (b,cap),hown=>
  obtain⟨h2,h3,cur,h4,h5,h6⟩:=hown.2
  by_cases hroom:n+k≤cap
  ·have hfit:n*i.size+news.length≤cur.size:=by rw[hl,h5,←iL];exact fH _ hroom
   have hr:=run_append_room (P:=P) w t ty' e i ht hi b n cap cur h4 a k c news hl hnews h1 hroom hfit
   refine⟨some (b,cap),_,hr,zlc ⟨hlen,hroom,h3,_,setRow_heap w b cur _ e _ h4,?_,?_⟩ (zk8 rfl rfl rfl sQ fun j _ hj=>setRow_other w b j _ (fun e=>hj ⟨cap,by rw[e]⟩)) (fun b' c' h=>.inr ⟨c',h⟩)⟩
   ·simp only[aI,aA,aM,aX,gA]
    omega
   ·rw[h6,←hlen]
    exact gX
  ·have hr:=run_append_grow (P:=P) w t ty' e i z ht hi hz ⟨b,0,none⟩ n cap xs hrow.1 (hrow.cells (g:=b) rfl) a k c news hl hnews oQ (by simp only[maxLen]at h63;omega) (growslice_fits oQ hbytes)
   exact⟨some (w.heap.size,grownCap w (n+k) cap e),_,hr,grown cap oQ⟩
def qgk(P:Program)(e:TypeId):Option (Nat×Nat×Nat):=match P.info? e with|some ⟨_,_,sz,bt,_,_,_,some z,_,_⟩=>some (sz,bt,z.cells.size) |_=>none
theorem zmw{s b k:Nat}(h:qgk P e=some (s,b,k)):∃i z,P.info? e=some i∧i.size=s∧i.bytes=b∧i.zero=some z∧z.cells.size=k:=by
 unfold qgk at h
 split at h
 ·rename_i hi
  simp only[cO,gU]at h
  obtain⟨h1,h2,h3⟩:=h
  exact⟨_,_,hi,h1,h2,rfl,h3⟩
 ·cases h
variable{T:TypeId}{x y:Operand}
theorem zdh{T':TypeId}{k c b:Nat}{news:List Value}(hok:zee N l (.call ⟨.builtin .append, #[x,y], #[T,T]⟩) d=true)(hx:evO l x=some (slV o n))(hy:evO l y=some (.slice (some a) k c))
  (hT:zmi P T=some e) (hi:qgk P e=some (sz,b,sz)) (hsz:Nat.ble 1 sz=true) (hl:news.length=k*sz) (h1:zb7 news=true) (hn:(n+k)*(b+1)≤140737488355328)
  (hnews:∀w,Hp w0 F (own e sz o n xs::m) w→∀(j:Nat) (v:Value),news[j]? =some v→w.cell? (a.add j)=some v):
  HO P ⟨some d,.call ⟨.builtin .append, #[x,y], #[T,T]⟩,T',pos,after,g⟩ Q N l (Hp w0 F (own e sz o n xs::m)) (α:=Option (Nat×Nat)) (fun o'=>(d,slV o' (n+k))::l) (fun o'=>Hp w0 F (own e sz o' (n+k) (xs++news)::m)):=
 zh6 (val:=fun o'=>slV o' (n+k)) hok (fun w hw=>by
  obtain⟨i,z,h1',h2,h3,h4,h5⟩:=zmw hi
  subst h2
  subst h3
  have hle:(n+k)*i.bytes+(n+k)≤140737488355328:=by rwa[fP,bO]at hn
  obtain⟨o',w',hr,hits⟩:=qnk (P:=P) (ty':=T') (c:=c) (zbs hT) h1' h4 h5 (bU hsz) (hw.item (own e i.size o n xs) sQ).1 hl (hnews w hw) (zba.1 h1) (by simp only[maxLen];omega) oQ
  refine⟨o',w',?_,Hp.call (m:=[own e i.size o n xs]) hw hits (fun k' _ hk=>⟨own e i.size o n xs,by simp,hk⟩)⟩
  simp only[execOp,resolve,invoke,builtin]
  simp[zar hx,zar hy,hr])
def zi2(sz:Nat)(l:zav):List (Nat×Operand)→Option (List (Nat×Nat×Value))
 | []=>some []
 |(i,x)::r=>match evO l x,zi2 sz l r with
  |some v,some L=>some ((i*sz,sz,v)::L)
  |_,_=>none
theorem zlj{sz:Nat}:∀{ps:List (Nat×Operand)} {L:List (Nat×Nat×Value)},zi2 sz l ps=some L→ps.length=L.length∧∀(j:Nat) p q,(ps.map fun p=>(p.1,ev l p.2))[j]? =some p→L[j]? =some q→(p.1*sz,sz)=(q.1,q.2.1)∧p.2=q.2.2
 | [],L,h=>by simp only[zi2,cO]at h;subst h;simp
 |(i,x)::r,L,h=>by
  simp only[zi2]at h
  split at h
  ·rename_i v L' h2 h3
   simp only[cO]at h
   subst h
   obtain⟨a,b⟩:=zlj h3
   refine⟨by simp[a],fun j p q hp hq=>?_⟩
   cases j with
   |zero=>
    simp only[bG,List.getElem?_cons_zero,cO]at hp hq
    subst hp;subst hq
    exact⟨rfl,zar h2⟩
   |succ j=>exact b j p q (by simpa using hp) (by simpa using hq)
  ·cases h
theorem zlu{n:Nat}:∀(L:List (Nat×Nat×Value)) (z:List Value),qaj n L→z.length=n→(zek z L).length=n
 | [],_,_,h=>h
 |p::r,z,hk,h=>by
  obtain⟨k1,k2⟩:=hk p sQ
  exact zlu r _ (fun q hq=>hk q (by simp[hq])) (by rw[zqc _ _ _ (by simp[k1];omega)];exact h)
def zds(z:Value)(n:Nat):List Value:=(List.range n).map fun i=>z.cells[i%z.cells.size]!
theorem Hp.newOwn{c:Nat}{ob:Obj}(hw:Hp w0 F m w)(h:(own e sz (some (w.heap.size,c)) n xs).prop (w.alloc ob)):Hp w0 F (own e sz (some (w.heap.size,c)) n xs::m) (w.alloc ob):=by
 have hits:Its none' w [own e sz (some (w.heap.size,c)) n xs] (w.alloc ob):=by
  refine⟨⟨rfl,rfl,rfl,by simp,fun k hk _=>Below.heap_alloc w _ k hk⟩,fun it hm=>?_,.cons (fun _ h=>by cases h) .nil⟩
  obtain rfl:it=own e sz (some (w.heap.size,c)) n xs:=by simpa using hm
  refine⟨h,zac _ _ _ _ _ _,fun k ⟨c',hk⟩=>?_⟩
  simp only[cO,gU]at hk
  obtain⟨rfl, -⟩:=hk
  exact⟨by simp,fun h=>absurd h (Nat.lt_irrefl _)⟩
 exact Hp.call0 hw hits
variable{ps:List (Nat×Operand)}{L:List (Nat×Nat×Value)}
theorem za3{len b:Nat}(hok:zee N l (.buildSlice T len ps.toArray) d=true)(hT:zmi P T=some e)(hi:zpt P e=some (sz,b,z))(hp:zi2 sz l ps=some L)
  (hlen:(Nat.ble (len*sz) 1000000&&Nat.ble 1 (len*sz))=true) (hkb:zdi (len*sz) L=true):
  HO P ⟨some d,.buildSlice T len ps.toArray,ty,pos,after,g⟩ Q N l (Hp w0 F m) (α:={ b:Nat//w0.heap.size≤b }) (fun c=>(d,.slice (some ⟨c.1,0,none⟩) len len)::l) (fun c=>Hp w0 F (own e sz (some (c.1,len)) len (zek (zds z (len*sz)) L)::m)):=
 zh6 (val:=fun c:{ b:Nat//w0.heap.size≤b }=>.slice (some ⟨c.1,0,none⟩) len len) hok (fun w hw=>by
  obtain⟨i,h1,h2,h3,h4⟩:=zh2 hi
  subst h2
  simp only[bH]at hlen
  have hle:=bU hlen.1
  have hge:=bU hlen.2
  have hk:=zgj hkb
  obtain⟨a1,a2⟩:=zlj hp
  have hzl:(zds z (len*i.size)).length=len*i.size:=by simp[zds]
  have hbl:=zlu L _ hk hzl
  have hfill:=zul (place:=fun j=>some (j*i.size,i.size)) L (ps.map fun p=>(p.1,ev l p.2)) (zds z (len*i.size)).toArray (by simpa using a1) (fun j p q hp hq=>by
   obtain⟨x1,x2⟩:=a2 j p q hp hq
   exact⟨by rw[x1],x2⟩) (by simpa[hzl]using hk)
  have hps:(ps.toArray.map fun(x:Nat×Operand)=>match x with|(i,x)=>(i,ev l x))=(ps.map fun p=>(p.1,ev l p.2)).toArray:=by simp
  have hz:((Array.range (len*i.size)).map fun x=>z.cells[x%z.cells.size]!)=(zds z (len*i.size)).toArray:=by
   apply Array.ext'
   simp[zds,Array.toList_range]
  have hne:¬(len*i.size=0):=oQ
  have hbig:¬(len*i.size>2^24):=oQ
  have hlm:len≤maxLen:=by
   have h5:len≤len*i.size:=Nat.le_mul_of_pos_right _ (Nat.pos_of_ne_zero fun h=>by rw[h]at hge;simp at hge)
   unfold maxLen;omega
  have htk:(zek (zds z (len*i.size)) L).toArray.toList.take (len*i.size)=zek (zds z (len*i.size)) L:=bJ (jF hbl)
  have hnew:(own e i.size (some (w.heap.size,len)) len (zek (zds z (len*i.size)) L)).prop (w.alloc (.cells (zek (zds z (len*i.size)) L).toArray e)):=
   ⟨hbl,bA _,hlm,_,heap_alloc_new w _,by simp[hbl],htk⟩
  refine⟨⟨w.heap.size,hw.fr.size⟩,w.alloc (.cells (zek (zds z (len*i.size)) L).toArray e),?_,hw.newOwn hnew⟩
  have hbig':¬(16777216<len*i.size):=oQ
  simp only[execOp,hps,Instr.buildSlice,Sem.run_bind,run_underlying (zbs hT) w,Result.andThen_ok,sizeOf,typeInfo,zeroValue]
  simp[newRow,h1,h4,hz,hfill,hbig',hne])
theorem zks{z:Array Value}(hT:P.underlying T=some (.array n e))(he:zcd P e=some sz)(hz:(P.info? T).bind (·.zero)=some (.agg z))(hp:zi2 sz l ps=some L)(hkb:zdi z.size L=true):
  OV P (.build T ps.toArray) ty l H (.agg (zek z.toList L).toArray):=ov fun _ _ _ w _=>by
 obtain⟨q,hq,hqs⟩:=zbg he
 obtain⟨a1,a2⟩:=zlj hp
 have hzr:(zeroValue T).run P w= .ok (.agg z) w:=by
  cases hi:P.info? T with
  |none=>simp[hi]at hz
  |some i=>
   have hz':i.zero=some (.agg z):=by simpa[hi]using hz
   simp[zeroValue,typeInfo,hi,hz']
 have hfill:=zul (place:=fun j=>some (j*sz,sz)) L (ps.map fun p=>(p.1,ev l p.2)) z (by simpa using a1) (fun j p q hp hq=>by
  obtain⟨x1,x2⟩:=a2 j p q hp hq
  exact⟨by rw[x1],x2⟩) (zgj hkb)
 have hps:(ps.toArray.map fun(x:Nat×Operand)=>match x with|(i,x)=>(i,ev l x))=(ps.map fun p=>(p.1,ev l p.2)).toArray:=by simp
 have hsz:(sizeOf e).run P w= .ok sz w:=by simp[sizeOf,typeInfo,hq,hqs]
 simp only[execOp,hps,Instr.build,Sem.run_bind,hzr,Result.andThen_ok,run_underlying hT w,Value.cells,hsz,hfill]
 rfl
variable{f:FuncId}{tys:Array TypeId}{vs:List Value}{v:Value}
theorem qs7{fn:Func}{E:Array Value→Sem Value}{xs:List Operand}(hf:P.funcs[f]? =some fn)(hname:(fn.name== "runtime.NumGoroutine")=false)(hb:fn.body.isNone=true)(hn:Extern.findNext fn=none)(he:Extern.find fn=some E)
  (hx:evs l xs=some vs) (hr:∀w,(E vs.toArray).run P w= .ok v w):OV P (.call ⟨.value (.func f),xs.toArray,tys⟩) ty l H v:=ov fun _ _ _ w _=>by
 simp only[execOp,resolve,Deferred.ofValue,ev,fS,zij hx]
 simp[invoke,run_callFunc_extern hf hname hb hn he,hr w]
variable{S:World→Prop}{t:Nat}
class NatOf (a:Int) (x:outParam Nat):Prop where eq:a=(x:Int)
instance natCast (x:Nat):NatOf (x:Int) x:=⟨rfl⟩
instance natLit (n:Nat):NatOf (no_index (@OfNat.ofNat Int n _)) (@OfNat.ofNat Nat n _):=⟨rfl⟩
class Lim (k:IntKind) (L:outParam Nat):Prop where wrap:∀n:Nat,n<L→k.wrap n=n
instance:Lim .i64 9223372036854775808:=⟨fun n h=>by simp[IntKind.wrap,IntKind.bits,IntKind.signed];omega⟩
instance:Lim .i32 2147483648:=⟨fun n h=>by simp[IntKind.wrap,IntKind.bits,IntKind.signed];omega⟩
instance:Lim .u64 18446744073709551616:=⟨fun n h=>by simp[IntKind.wrap,IntKind.bits,IntKind.signed];omega⟩
instance:Lim .u32 4294967296:=⟨fun n h=>by simp[IntKind.wrap,IntKind.bits,IntKind.signed];omega⟩
instance:Lim .u16 65536:=⟨fun n h=>by simp[IntKind.wrap,IntKind.bits,IntKind.signed];omega⟩
instance:Lim .u8 256:=⟨fun n h=>by simp[IntKind.wrap,IntKind.bits,IntKind.signed];omega⟩
class Deci (b:Bool) (p:outParam Prop):Prop where iff:b=true↔p
instance{p:Prop}{_:Decidable p}:Deci (decide p) p:=⟨by simp⟩
instance{α:Type}[BEq α][LawfulBEq α](a b:α):Deci (a==b) (a=b):=⟨by simp⟩
instance{α:Type}[BEq α][LawfulBEq α](a b:α):Deci (a != b) (a≠b):=⟨by simp⟩
instance{b:Bool}{p:Prop}[h:Deci b p]:Deci (!b) (¬p):=⟨by rw[←h.iff];simp⟩
instance(a b:ByteArray):Deci (seq a b) (a=b):=⟨qat⟩
instance:Deci true True:=⟨by simp⟩
instance:Deci false False:=⟨by simp⟩
instance(priority:=low)(b:Bool):Deci b (b=true):=⟨.rfl⟩
class DeciN (b:Bool) (p:outParam Prop):Prop where iff:b=true↔p
instance{p:Prop}{_:Decidable p}:DeciN (decide p) p:=⟨by simp⟩
instance{α:Type}[BEq α][LawfulBEq α](a b:α):DeciN (a==b) (a=b):=⟨by simp⟩
instance{α:Type}[BEq α][LawfulBEq α](a b:α):DeciN (a != b) (a≠b):=⟨by simp⟩
instance{b:Bool}{p:Prop}[h:Deci b p]:DeciN (!b) (¬p):=⟨by rw[←h.iff];simp⟩
instance(a b:ByteArray):DeciN (seq a b) (a=b):=⟨qat⟩
variable{b:Bool}{p:Prop}
theorem DeciN.deci(h:DeciN b p):Deci b p:=⟨h.iff⟩
theorem Deci.yes[h:Deci b p](hp:p):b=true:=h.iff.2 hp
theorem Deci.no[h:Deci b p](hp:¬p):b=false:=by
 cases b with
 |false=>rfl
 |true=>exact absurd (h.iff.1 rfl) hp
class BinV (op:BinOp) (u v:Value) (r:outParam Value) (C:outParam Prop):Prop where
 run:C→∀(P:Program) (xt:TypeId) (x y:Operand) (w:World),(do eqGuard op xt x y u v;binOp op xt u v:Sem Value).run P w= .ok r w
variable{op:BinOp}
theorem qjf{u r:Value}{C:Prop}{U:TypeId}[h:BinV op u v r C](hx:evO l x=some u)(hy:evO l y=some v)(hc:C):OV P (.binOp op T x y U) ty l H r:=zf5 hx hy fun w=>h.run hc P T x y w
theorem qit{u r:Value}{U:TypeId}[h:BinV op u v r True](hx:evO l x=some u)(hy:evO l y=some v):OV P (.binOp op T x y U) ty l H r:=qjf hx hy trivial
variable{k:IntKind}
theorem ze4{a b:Int}(w:World)(h:a=b):(.ok (.int k a) w:Result Value)= .ok (.int k b) w:=by rw[h]
section
variable{a b:Int}{x y L:Nat}[ha:NatOf a x][hb:NatOf b y][hL:Lim k L]
include ha hb hL
instance:BinV .add (.int k a) (.int k b) (.int k (x+y:Nat)) (x+y<L):=⟨fun h P xt o o' w=>by
 obtain rfl:=ha.eq;obtain rfl:=hb.eq
 show(if k≠k then _ else Op.intArith .add k _ _).run P w=_
 rw[if_neg sQ]
 exact ze4 w (by rw[←lG];exact hL.wrap _ h)⟩
instance:BinV .sub (.int k a) (.int k b) (.int k (x - y:Nat)) (y≤x∧x - y<L):=⟨fun h P xt o o' w=>by
 obtain rfl:=ha.eq;obtain rfl:=hb.eq
 show(if k≠k then _ else Op.intArith .sub k _ _).run P w=_
 rw[if_neg sQ]
 exact ze4 w (by rw[←Int.natCast_sub h.1];exact hL.wrap _ h.2)⟩
instance:BinV .mul (.int k a) (.int k b) (.int k (x*y:Nat)) (x*y<L):=⟨fun h P xt o o' w=>by
 obtain rfl:=ha.eq;obtain rfl:=hb.eq
 show(if k≠k then _ else Op.intArith .mul k _ _).run P w=_
 rw[if_neg sQ]
 exact ze4 w (by rw[←jW];exact hL.wrap _ h)⟩
instance:BinV .quo (.int k a) (.int k b) (.int k (x/y:Nat)) (0<y∧x<L):=⟨fun h P xt o o' w=>by
 obtain rfl:=ha.eq;obtain rfl:=hb.eq
 show(if k≠k then _ else Op.intDiv .quo k _ _).run P w=_
 rw[if_neg sQ]
 have h0:¬((y:Int)=0):=oQ
 simp only[Op.intDiv,h0,if_false]
 exact ze4 w (hL.wrap _ (cL (eW x y) h.2))⟩
instance:BinV .rem (.int k a) (.int k b) (.int k (x%y:Nat)) (0<y):=⟨fun h P xt o o' w=>by
 obtain rfl:=ha.eq;obtain rfl:=hb.eq
 show(if k≠k then _ else Op.intDiv .rem k _ _).run P w=_
 rw[if_neg sQ]
 have h0:¬((y:Int)=0):=oQ
 simp only[Op.intDiv,h0,if_false]
 exact ze4 w rfl⟩
end
section
variable{a b:Int}
instance(priority:=low):BinV .add (.int .i64 a) (.int .i64 b) (.int .i64 (a+b)) (-9223372036854775808≤a+b∧a+b<9223372036854775808):=⟨fun h _ _ _ _ w=>ze4 w (zxd _ h.1 h.2)⟩
instance(priority:=low):BinV .sub (.int .i64 a) (.int .i64 b) (.int .i64 (a - b)) (-9223372036854775808≤a - b∧a - b<9223372036854775808):=⟨fun h _ _ _ _ w=>ze4 w (zxd _ h.1 h.2)⟩
instance:BinV .lss (.int k a) (.int k b) (.bool (decide (a<b))) True:=⟨fun _ P xt o o' w=>by
 show(if k≠k then _ else Op.intCmp .lss _ _).run P w=_
 rw[if_neg sQ];rfl⟩
instance:BinV .leq (.int k a) (.int k b) (.bool (decide (a≤b))) True:=⟨fun _ P xt o o' w=>by
 show(if k≠k then _ else Op.intCmp .leq _ _).run P w=_
 rw[if_neg sQ];rfl⟩
instance:BinV .gtr (.int k a) (.int k b) (.bool (decide (a>b))) True:=⟨fun _ P xt o o' w=>by
 show(if k≠k then _ else Op.intCmp .gtr _ _).run P w=_
 rw[if_neg sQ];rfl⟩
instance:BinV .geq (.int k a) (.int k b) (.bool (decide (a≥b))) True:=⟨fun _ P xt o o' w=>by
 show(if k≠k then _ else Op.intCmp .geq _ _).run P w=_
 rw[if_neg sQ];rfl⟩
instance:BinV .eql (.int k a) (.int k b) (.bool (a==b)) True:=⟨fun _ P xt o o' w=>by
 show(if k≠k then _ else Op.intCmp .eql _ _).run P w=_
 rw[if_neg sQ];rfl⟩
instance:BinV .neq (.int k a) (.int k b) (.bool (a != b)) True:=⟨fun _ P xt o o' w=>by
 show(if k≠k then _ else Op.intCmp .neq _ _).run P w=_
 rw[if_neg sQ];rfl⟩
end
class Uns (k:IntKind) (L n:outParam Nat):Prop where
 bits:k.bits=n
 lim:L=2^n
 wrap:∀m:Nat,k.wrap (m:Int)=((m%L:Nat):Int)
instance:Uns .u8 256 8:=⟨rfl,rfl,zlo⟩
instance:Uns .u16 65536 16:=⟨rfl,rfl,fun n=>by simp[IntKind.wrap,IntKind.bits,IntKind.signed]⟩
instance:Uns .u32 4294967296 32:=⟨rfl,rfl,zj7⟩
instance:Uns .u64 18446744073709551616 64:=⟨rfl,rfl,zdu⟩
section
variable{a b:Int}{x y L:Nat}[ha:NatOf a x][hb:NatOf b y][hU:Uns k L n]
include ha hb hU
instance:BinV .and (.int k a) (.int k b) (.int k (x&&& y:Nat)) (x<L):=⟨fun h P xt o o' w=>by
 obtain rfl:=ha.eq;obtain rfl:=hb.eq;obtain rfl:=hU.bits;obtain rfl:=hU.lim
 show(if k≠k then _ else Op.intBits .and k _ _).run P w=_
 rw[if_neg sQ]
 refine ze4 w ?_
 rw[zbw,zbw,hU.wrap,fR,bW,bW]
 congr 1
 have h1:x%2^k.bits=x:=bD h
 have h2:(x&&& y%2^k.bits)=(x&&& y):=by
  have:=Nat.and_mod_two_pow (a:=x) (b:=y) (n:=k.bits)
  rw[h1]at this
  rw[←this]
  exact bD (cL gL h)
 rw[h1,h2]
 exact bD (cL gL h)⟩
instance:BinV .or (.int k a) (.int k b) (.int k (x|||y:Nat)) (x<L∧y<L):=⟨fun h P xt o o' w=>by
 obtain rfl:=ha.eq;obtain rfl:=hb.eq;obtain rfl:=hU.bits;obtain rfl:=hU.lim
 show(if k≠k then _ else Op.intBits .or k _ _).run P w=_
 rw[if_neg sQ]
 refine ze4 w ?_
 rw[zbw,zbw,hU.wrap,lF,bW,bW]
 congr 1
 rw[bD h.1,bD h.2]
 exact bD (kP h.1 h.2)⟩
instance:BinV .xor (.int k a) (.int k b) (.int k (x^^^y:Nat)) (x<L∧y<L):=⟨fun h P xt o o' w=>by
 obtain rfl:=ha.eq;obtain rfl:=hb.eq;obtain rfl:=hU.bits;obtain rfl:=hU.lim
 show(if k≠k then _ else Op.intBits .xor k _ _).run P w=_
 rw[if_neg sQ]
 refine ze4 w ?_
 rw[zbw,zbw,hU.wrap,kS,bW,bW]
 congr 1
 rw[bD h.1,bD h.2]
 exact bD (kL h.1 h.2)⟩
instance{k':IntKind}:BinV .shr (.int k a) (.int k' b) (.int k (x/2^y:Nat)) (y<n):=⟨fun h P xt o o' w=>by
 obtain rfl:=ha.eq;obtain rfl:=hb.eq;obtain rfl:=hU.bits
 show((binOp .shr xt (.int k x) (.int k' y)).run P w)=_
 have h0:¬((y:Int)<0):=oQ
 simp only[binOp,Op.shift,h0,if_false,cB]
 refine ze4 w ?_
 have e:min y k.bits=y:=oQ
 have e2:(2:Int)^y=((2^y:Nat):Int):=by simp
 rw[e,e2,iJ _ (kF _)]
 rfl⟩
instance{k':IntKind}:BinV .shl (.int k a) (.int k' b) (.int k (x*2^y%L:Nat)) (y<n):=⟨fun h P xt o o' w=>by
 obtain rfl:=ha.eq;obtain rfl:=hb.eq;obtain rfl:=hU.bits
 show((binOp .shl xt (.int k x) (.int k' y)).run P w)=_
 have h0:¬((y:Int)<0):=oQ
 simp only[binOp,Op.shift,h0,if_false,cB]
 refine ze4 w ?_
 have e:min y k.bits=y:=oQ
 have e2:((x:Int)*2^y)=((x*2^y:Nat):Int):=by simp
 rw[e,e2,hU.wrap]⟩
end
theorem qcm(a b:ByteArray):seq a b=(a.toList==b.toList):=by rw[←qic,←zpd]
section
variable{a:Bool}{s u:ByteArray}
instance:BinV .eql (.string s) (.string u) (.bool (seq s u)) True:=⟨fun _ _ _ _ _ _=>by rw[qcm];rfl⟩
instance:BinV .neq (.string s) (.string u) (.bool (!seq s u)) True:=⟨fun _ _ _ _ _ _=>by rw[qcm];rfl⟩
instance:BinV .lss (.string s) (.string u) (.bool (Op.bytesLess s.toList u.toList)) True:=⟨fun _ _ _ _ _ _=>rfl⟩
instance:BinV .gtr (.string s) (.string u) (.bool (!(Op.bytesLess s.toList u.toList||seq s u))) True:=⟨fun _ _ _ _ _ _=>by rw[qcm];rfl⟩
instance:BinV .leq (.string s) (.string u) (.bool (Op.bytesLess s.toList u.toList||seq s u)) True:=⟨fun _ _ _ _ _ _=>by rw[qcm];rfl⟩
instance:BinV .geq (.string s) (.string u) (.bool (!(Op.bytesLess s.toList u.toList))) True:=⟨fun _ _ _ _ _ _=>rfl⟩
instance:BinV .add (.string s) (.string u) (.string (s++u)) (s.size+u.size<9223372036854775808):=⟨fun h P xt o o' w=>by
 have h':¬(((s.size+u.size:Nat):Int)>IntKind.i64.max):=by simp[IntKind.max,IntKind.bits,IntKind.signed];omega
 show((binOp .add xt (.string s) (.string u)).run P w)=_
 simp only[binOp,Op.stringOp,if_neg h']
 rfl⟩
end
theorem zv3{a:Bool}{U:TypeId}(hx:evO l x=some (.bool a))(hy:evO l y=some (.bool b))(hT:P.underlying T=some .bool):OV P (.binOp .eql T x y U) ty l H (.bool (a==b)):=zf5 hx hy fun w=>by
 show((Op.equal T (.bool a) (.bool b)>>= fun r=>(pure (Value.bool r):Sem Value)).run P w)=_
 rw[Sem.run_bind,run_equal_bool w T a b hT];rfl
theorem qxk{a:Bool}{U:TypeId}(hx:evO l x=some (.bool a))(hy:evO l y=some (.bool b))(hT:P.underlying T=some .bool):OV P (.binOp .neq T x y U) ty l H (.bool (!(a==b))):=zf5 hx hy fun w=>by
 show((Op.equal T (.bool a) (.bool b)>>= fun r=>(pure (Value.bool (!r)):Sem Value)).run P w)=_
 rw[Sem.run_bind,run_equal_bool w T a b hT];rfl
def okL(ops:Array Oper)(N:Fm)(l:zav)(g:Option (Nat×Bool))(op:Op)(d:Nat):Bool:=okG ops l g&&zee N l op d
variable{op:Op}
theorem l_w(hok:okL ops N l g op d=true)(hv:OV P op ty l H v)(k:HL P ops Q N rest ((d,v)::l) H):HL P ops Q N (⟨some d,op,ty,pos,after,g⟩::rest) l H:=by
 simp only[okL,bH]at hok
 exact l_v hok.1 hok.2 hv k
def okP(ops:Array Oper)(N:Fm)(l:zav)(g:Nat×Bool)(d:Nat):Bool:=Nat.ble (d+1) N.n&&match nth ops.toList g.1 with
 |some o=>(match o.dst with|some t=>(match get l t with|some (.bool c)=> !(c==g.2) |some (.tuple _)=>true|_=>false) |none=>false)
 |none=>false
theorem qp1{g:Nat×Bool}(hok:okP ops N l g d=true)(k:HL P ops Q N rest ((d,undef)::l) H):HL P ops Q N (⟨some d,op,ty,pos,after,some g⟩::rest) l H:=by
 simp only[okP,bH]at hok
 obtain⟨h1,h2⟩:=hok
 split at h2
 ·rename_i o ho
  have ho:=zei ho
  split at h2
  ·rename_i t ht
   split at h2
   ·rename_i c hc
    exact qq4 h1 (by simp only[zm7,ho,gZ,ht,hc];revert h2;cases c<;>cases g.2<;>simp) k
   ·rename_i vs hc
    exact qoe h1 (by simp only[qrd,ho,gZ,ht,hc]) k
   ·cases h2
  ·cases h2
 ·cases h2
theorem qls{c:Operand}[h:Deci b p](hc:evO l c=some (.bool b))(hx:evO l x=some v)(hp:p):OV P (.pick c x y) ty l H v:=qpo hc (h.yes hp) hx
theorem qlr{c:Operand}[h:Deci b p](hc:evO l c=some (.bool b))(hy:evO l y=some v)(hp:¬p):OV P (.pick c x y) ty l H v:=qpn hc (h.no hp) hy
theorem qlq(hx:evO l x=some (.bool b)):OV P (.unOp .not T x) ty l H (.bool (!b)):=ov fun _ _ _ w _=>by simp only[execOp,zar hx];rfl
variable{b i:Nat}{a:Int}
theorem qln{j:Nat}[h:NatOf a j](hx:evO l x=some (.pointer (some ⟨b,i,none⟩)))(hy:evO l y=some (.int k a))(hT:qfd P T=some (n,sz))(h1:j<n):OV P (.indexAddr T x y) ty l H (.pointer (some ⟨b,i+j*sz,none⟩)):=by
 obtain rfl:=h.eq;exact qmz hx hy hT h1
theorem zv4{j:Nat}[h:NatOf a j](hx:evO l x=some (.pointer (some ⟨b,i,none⟩)))(hy:evO l y=some (.int k a))(hT:qfd P T=some (n,1))(h1:j<n):OV P (.indexAddr T x y) ty l H (.pointer (some ⟨b,i+j,none⟩)):=by
 obtain rfl:=h.eq;exact qiu hx hy hT h1
variable{c:Nat}
theorem zra{j:Nat}[h:NatOf a j](hx:evO l x=some (.slice (some ⟨b,i,none⟩) n c))(hy:evO l y=some (.int k a))(hT:qif P T=some 1)(h1:j<n):OV P (.indexAddr T x y) ty l H (.pointer (some ⟨b,i+j,none⟩)):=by
 obtain rfl:=h.eq;exact qph hx hy hT h1
theorem qlo{j:Nat}[h:NatOf a j](hx:evO l x=some (.slice (some ⟨b,i,none⟩) n c))(hy:evO l y=some (.int k a))(hT:qif P T=some sz)(h1:j<n):OV P (.indexAddr T x y) ty l H (.pointer (some ⟨b,i+j*sz,none⟩)):=by
 obtain rfl:=h.eq;exact qm0 hx hy hT h1
variable{s:ByteArray}
theorem qlv[h:NatOf a i](hx:evO l x=some (.string s))(hy:evO l y=some (.int k a))(hT:P.underlying T=some .string)(hi:i<s.size):OV P (.index T x y) ty l H (.int .u8 (s[i].toNat:Nat)):=by
 obtain rfl:=h.eq;exact qpr hx hy hT hi
theorem qlt[h:NatOf a i](hx:evO l x=some (.string s))(hy:evO l y=some (.int k a))(hT:P.underlying T=some .string)(hi:i≤s.size):OV P (.slice T x (some y) none none) ty l H (.string (s.extract i s.size)):=by
 obtain rfl:=h.eq;exact qlx hx hy hT hi
theorem qlu[h:NatOf a i](hx:evO l x=some (.string s))(hy:evO l y=some (.int k a))(hT:P.underlying T=some .string)(hi:i≤s.size):OV P (.slice T x none (some y) none) ty l H (.string (s.extract 0 i)):=by
 obtain rfl:=h.eq;exact qc0 hx hy hT hi
variable{p:Option Addr}
theorem qlp[h:NatOf a i](hx:evO l x=some (.slice p n c))(hy:evO l y=some (.int k a))(hT:zmi P T=some e)(he:zcd P e=some sz)(hi:i≤n):OV P (.slice T x (some y) none none) ty l H (.slice (zwe p (decide (c=i)) (i*sz)) (n - i) (c - i)):=by
 obtain rfl:=h.eq;exact qr3 hx hy hT he hi
section
variable{c:Operand}{x y:Code}{b:Bool}{p:Prop}[h:Deci b p]
include h
theorem t_T(hc:evO l c=some (.bool b))(hk:zex l c=true)(hp:p)(k:HT P x Q N l H):HT P (.cond c x y) Q N l H:=qrq hk hc (h.yes hp) k
theorem t_F(hc:evO l c=some (.bool b))(hk:zex l c=true)(hp:¬p)(k:HT P y Q N l H):HT P (.cond c x y) Q N l H:=qo4 hk hc (h.no hp) k
theorem qp3(hc:evO l c=some (.bool b))(hk:zex l c=true)(ht:p→HT P x Q N l H)(hf:¬p→HT P y Q N l H):HT P (.cond c x y) Q N l H:=zq2 b hk hc (fun e=>ht (h.iff.1 e)) (fun e=>hf fun hp=>by rw[h.yes hp]at e;cases e)
variable{dst:Option Nat}{g:Nat×Bool}
end
section
variable{b:Bool}{p:Prop}[h:DeciN b p]{dst:Option Nat}{g:Nat×Bool}
include h
theorem l_T(hd:(nth ops.toList g.1).bind (·.dst)=some d)(hg:get l d=some (.bool b))(hp:p)(k:HL P ops Q N (⟨dst,op,ty,pos,after,some g⟩::rest) ((d,.bool true)::l) H):HL P ops Q N (⟨dst,op,ty,pos,after,some g⟩::rest) l H:=qq2 hd hg (h.deci.yes hp) k
theorem l_F(hd:(nth ops.toList g.1).bind (·.dst)=some d)(hg:get l d=some (.bool b))(hp:¬p)(k:HL P ops Q N (⟨dst,op,ty,pos,after,some g⟩::rest) ((d,.bool false)::l) H):HL P ops Q N (⟨dst,op,ty,pos,after,some g⟩::rest) l H:=qq1 hd hg (h.deci.no hp) k
end
def qam(all:List Oper)(listed:List Bool)(E:List Nat)(l:zav):Nat→List Oper→Option Nat
 |_,[]=>none
 |i,o::r=>bif nth listed i==some false&&(!qn9 E i&&(qnh listed o.after.toList&&(qrh o.op||noB all l o.guard)))then some i else qam all listed E l (i+1) r
variable{listed:Array Bool}
theorem d_w(E:List Nat)(_hp:qam ops.toList listed.toList E l 0 ops.toList=some i)
  (hi:nth ops.toList i=some ⟨some d,op,ty,pos,after,g⟩) (hok:okL ops N l g op d=true) (hb:znn ops t listed i=true) (hS:∀w,H w→S w) (hv:OV P op ty l S v)
  (k:HD P ops Q S t N n (listed.setIfInBounds i true) ((d,v)::l) H):HD P ops Q S t N (n+1) listed l H:=by
 simp only[okL,bH]at hok
 have hp':i=i:=rfl
 obtain⟨hs,hN,hk⟩:=ze0 hok.2
 exact zww hb (zei hi) hS (fun a s=>.inl ⟨zkl s hok.1,fun w hw=>by rw[s.exec _ hs hk,zkf _ _ none _ _ _ "" _ #[] _ none];exact hv.run none "" #[] w hw⟩) (fun a s=>s.put hN v) k
theorem qez(E:List Nat){g:Nat×Bool}(_hp:qam ops.toList listed.toList E l 0 ops.toList=some i)
  (hi:nth ops.toList i=some ⟨some d,op,ty,pos,after,some g⟩) (hok:okP ops N l g d=true) (hb:znn ops t listed i=true) (hS:∀w,H w→S w)
  (k:HD P ops Q S t N n (listed.setIfInBounds i true) ((d,undef)::l) H):HD P ops Q S t N (n+1) listed l H:=by
 simp only[okP,bH]at hok
 obtain⟨h1,h2⟩:=hok
 split at h2
 ·rename_i o ho
  have ho:=zei ho
  split at h2
  ·rename_i t' ht
   split at h2
   ·rename_i c hc
    exact zww hb (zei hi) hS (fun a s=>.inr ⟨zj0 s (by simp only[zm7,ho,gZ,ht,hc];revert h2;cases c<;>cases g.2<;>simp),rfl⟩) (fun a s=>s.put (bU h1) undef) k
   ·rename_i vs hc
    exact zww hb (zei hi) hS (fun a s=>.inr ⟨zx3 s (by simp only[qrd,ho,gZ,ht,hc]),rfl⟩) (fun a s=>s.put (bU h1) undef) k
   ·cases h2
  ·cases h2
 ·cases h2
section
variable{dst:Option Nat}{g:Nat×Bool}{b:Bool}{p:Prop}[h:DeciN b p]
include h
theorem d_T(E:List Nat)(_hp:pick ops listed E=some i)(_hi:nth ops.toList i=some ⟨dst,op,ty,pos,after,some g⟩)(_hd:(nth ops.toList g.1).bind (·.dst)=some d)(hg:get l d=some (.bool b))(hp:p)(k:HD P ops Q S t N n listed ((d,.bool true)::l) H):HD P ops Q S t N n listed l H:=zro d _ _ hg (by rw[h.deci.yes hp]) k
theorem d_F(E:List Nat)(_hp:pick ops listed E=some i)(_hi:nth ops.toList i=some ⟨dst,op,ty,pos,after,some g⟩)(_hd:(nth ops.toList g.1).bind (·.dst)=some d)(hg:get l d=some (.bool b))(hp:¬p)(k:HD P ops Q S t N n listed ((d,.bool false)::l) H):HD P ops Q S t N n listed l H:=zro d _ _ hg (by rw[h.deci.no hp]) k
end
theorem Hp.imp{it it':Item}(hw:Hp w0 F (it::m) w)(hf:∀k,it'.foot k→it.foot k)(hp:it.prop w→it'.prop w)(hs:it'.Stable (qsd w0 F)):Hp w0 F (it'::m) w:=by
 refine⟨hw.fr,fun x hx=>?_,?_⟩
 ·rcases aL.1 hx with rfl|hx
  ·obtain⟨h1, -,h3⟩:=hw.item it sQ
   exact⟨hp h1,hs,fun k hk=>h3 k (hf k hk)⟩
  ·exact hw.item x (by simp[hx])
 ·obtain⟨h1,h2⟩:=bP.1 hw.apart
  exact bP.2 ⟨fun y hy k hk=>h1 y hy k (hf k hk),h2⟩
theorem Hp.ownOf{cs:Array Value}(hw:Hp w0 F (pt b (.cells cs e (0,0))::m) w)(hn:n≤c)(hc:c≤maxLen)(hs:cs.size=c*sz):Hp w0 F (own e sz (some (b,c)) n (cs.toList.take (n*sz))::m) w:=
 hw.imp (fun k ⟨c',h⟩=>by cases h;rfl) (fun h=>⟨by
  have:n*sz≤c*sz:=fH _ hn
  rw[aM,gA,hs];omega,hn,hc,cs,h,hs,rfl⟩) (zac _ _ _ _ _ _)
theorem qd8(h:(own e sz (some (b,c)) n xs).prop w):w.frozen? ⟨b,i,none⟩=false:=by
 obtain⟨-, -,cur,h3, -⟩:=h.2
 exact frozen_of_row w b i cur e h3
theorem qgd(hw:Hp w0 F (own e sz (some (b,c)) n xs::m) w)(v:Value):Hp w0 F (own e sz (some (b,c)) n (xs.set i v)::m) (w.setCell ⟨b,i,none⟩ v):=by
 have hp:=(hw.item (own e sz (some (b,c)) n xs) sQ).1
 obtain⟨h1,h2,cur,h3,h4,h5⟩:=hp.2
 refine Hp.call (L:=[own e sz (some (b,c)) n (xs.set i v)]) (m:=[own e sz (some (b,c)) n xs]) (Fc:=fun k=>k=b) hw ⟨⟨rfl,rfl,rfl,by simp[World.setCell],fun k _ hk=>heap_setCell_other w ⟨b,i,none⟩ k v hk⟩,fun it hm=>?_,.cons (fun _ h=>by cases h) .nil⟩ (fun k _ hk=>⟨own e sz (some (b,c)) n xs,by simp,⟨c,by rw[hk]⟩⟩)
 obtain rfl:it=own e sz (some (b,c)) n (xs.set i v):=by simpa using hm
 refine⟨⟨by simpa using hp.1,h1,h2,_,heap_setCell_same w b i cur e v h3,by simpa using h4,?_⟩,zac _ _ _ _ _ _,fun k ⟨c',hk⟩=>?_⟩
 ·rw[kD,←h5,List.take_set]
 ·cases hk
  refine⟨?_,fun _=>rfl⟩
  have:=(bR.1 h3).1
  simpa[World.setCell]using this
theorem zvi(hok:(zez (.store T x y)&&zec l (.store T x y))=true)
  (hx:evO l x=some (.pointer (some ⟨b,i,none⟩))) (hy:evO l y=some v) (hT:(P.info? T).map (·.size)=some 1) (h1:v.cells= #[v]) (h2:v.oneCell'=true) (hi:i<n):
  HO P ⟨none,.store T x y,ty,pos,after,g⟩ Q N l (Hp w0 F (own e 1 (some (b,c)) n xs::m)) (α:=Unit) (fun _=>l) (fun _=>Hp w0 F (own e 1 (some (b,c)) n (xs.set i v)::m)):=
 zs1 hok (fun w hw=>by
  have hp:=(hw.item (own e 1 (some (b,c)) n xs) sQ).1
  refine⟨(),w.setCell ⟨b,i,none⟩ v,?_,qgd hw v⟩
  have hl:i<xs.length:=by rw[hp.1];omega
  have hc:=zby hp i _ (aB hl)
  have hf:w.frozen? ⟨b,i,none⟩=false:=qd8 hp
  cases hq:P.info? T with
  |none=>simp[hq]at hT
  |some q=>
   have hs:q.size=1:=by simpa[hq]using hT
   cases v<;>simp[execOp,zar hx,zar hy,Instr.storeAt,Instr.sureAddr,storeVar,sizeOf,typeInfo,hq,hs,h1,storeCells,store,Addr.add,Sem.run,hc,hf]at h2⊢<;>cases h2)
theorem zrc(hx:evO l x=some (.pointer (some ⟨b,i,none⟩)))(hT:zja P T=true)(hm:own e sz (some (b,c)) n xs∈m)(hv:xs[i]? =some v):OV P (.load T x) ty l (Hp w0 F m) v:=
 za0 hx hT (fun _ hw=>zby (hw.item _ hm).1 i v hv)
theorem qtm[h:NatOf a i](hx:evO l x=some (.slice p n c))(hy:evO l y=some (.int k a))(hT:zmi P T=some e)(he:zcd P e=some sz)(hi:i≤c):OV P (.slice T x none (some y) none) ty l H (.slice p i c):=ov fun _ _ _ w _=>by
 obtain rfl:=h.eq
 have hu:=zbs hT
 have hu':P.underlying T=some (.slice (P.elem T)):=by rw[hu];simp[Program.elem,hu]
 have he':P.elem T=e:=by simp[Program.elem,hu]
 obtain⟨q,hq,hqs⟩:=zbg he
 have h:=run_slice_h (P:=P) w T p n c hu' k i oQ oQ
 have hz:(sizeOf (P.elem T)).run P w= .ok sz w:=by rw[he'];simp[sizeOf,typeInfo,hq,hqs]
 simp only[execOp,zar hx,bZ,fZ,zar hy,Sem.run_bind,run_sliceAt_slice w T _ _ _ _ hu',h,hz,Result.andThen_ok,cB,sliced]
 cases p<;>simp[Sem.run_pure,Addr.add]
theorem qs8{T:Array TypeId}{k':IntKind}{b:Int}{j:Nat}[h:NatOf a i][h':NatOf b j](hx:evO l x=some (.int k a))(hy:evO l y=some (.int k' b)):OV P (.call ⟨.builtin .min, #[x,y],T⟩) ty l H (.int k (min i j:Nat)):=ov fun _ _ _ w _=>by
 obtain rfl:=h.eq;obtain rfl:=h'.eq
 simp only[execOp,resolve,invoke,builtin]
 simp[zar hx,zar hy,run_min_int2]
 split<;>omega
def qqx(P:Program)(T:TypeId):Option IntKind:=match P.underlying T with|some (.int k)=>some k|_=>none
theorem zxj(h:qqx P T=some k):P.underlying T=some (.int k):=by
 unfold qqx at h
 split at h
 ·rename_i hu;rw[hu,cR h]
 ·cases h
theorem qrt{S:TypeId}{k':IntKind}{L:Nat}[h:NatOf a n][hL:Lim k' L](hx:evO l x=some (.int k a))(hS:(P.underlying S).isSome=true)(hT:qqx P T=some k')(hn:n<L):OV P (.convert S T x) ty l H (.int k' (n:Int)):=ov fun _ _ _ w _=>by
 obtain rfl:=h.eq
 obtain⟨u,hu⟩:=cI.1 hS
 simp only[execOp,zar hx,convert,Sem.run_bind,run_underlying hu w,run_underlying (zxj hT) w,Result.andThen_ok,Conv.intToInt,Sem.run_pure,hL.wrap n hn]
variable{p:Prop}
theorem zch(hf:∀w,H w→p)(k:p→HL P ops Q N rest l H):HL P ops Q N rest l H:=by
 unfold HL at*;exact fun a w s hw=>k (hf w hw) a w s hw
theorem zhm{c:Code}(hf:∀w,H w→p)(k:p→HT P c Q N l H):HT P c Q N l H:=by
 unfold HT at*;exact fun a w s hw=>k (hf w hw) a w s hw
theorem qi7{e:Exit}(hf:∀w,H w→p)(k:p→HX Q e N l H):HX Q e N l H:=by
 unfold HX at*;exact fun a w s hw=>k (hf w hw) a w s hw
theorem qma(hf:∀w,H w→p)(k:p→HD P ops Q S t N n listed l H):HD P ops Q S t N n listed l H:=by
 unfold HD at*;exact fun i a w s hw=>k (hf w hw) i a w s hw
variable{xs:List Operand}{α:Type}{val:α→Value}{φ:α→Prop}{its:α→List Item}
theorem zdy(hg:okG ops l g=true)(hok:zee N l (.call ⟨.value (.func f),xs.toArray,tys⟩) d=true)(hb:za7 P f=true)(hx:evs l xs=some vs)
  (hc:∀w,Hp w0 F m w→Ct P f vs.toArray w none' val φ its) (k:∀x,φ x→HL P ops Q N rest ((d,val x)::l) (Hp w0 F (its x++m))):HL P ops Q N (⟨some d,.call ⟨.value (.func f),xs.toArray,tys⟩,ty,pos,after,g⟩::rest) l (Hp w0 F m):=
 zeh hg (qhd hok hb hx hc) fun x=>k x.1 x.2
theorem qqn(i:Nat){m0:List Item}(hr0:Region.ready .any ops listed=[i]∧i<t)(hi0:nth ops.toList i=some ⟨some d,.call ⟨.value (.func f),xs.toArray,tys⟩,ty,pos,after,g⟩)(hg:okG ops l g=true)
  (hok:zee N l (.call ⟨.value (.func f),xs.toArray,tys⟩) d=true) (hb:za7 P f=true) (hx:evs l xs=some vs) (hS:∀w,Hp w0 F m w→Hp w0 F m0 w)
  (hc:∀w,Hp w0 F m w→Ct P f vs.toArray w none' val φ its) (k:∀x,φ x→HD P ops Q (Hp w0 F (its x++m)) t N n (listed.setIfInBounds i true) ((d,val x)::l) (Hp w0 F (its x++m))):HD P ops Q (Hp w0 F m0) t N (n+1) listed l (Hp w0 F m):=
 zat i hr0 hi0 hg (qhd hok hb hx hc) (fun _ w h=>hS w (h.sub (dI _ _))) fun x=>qtt (fun w h=>hS w (h.sub (dI _ _))) (k x.1 x.2)
variable{cs:List Value}
theorem zm6{fs:List Value}{us:List Value}(hok:zee N l (.call ⟨.value x,xs.toArray,tys⟩) d=true)(hb:za7 P f=true)(hf:evO l x=some (.func (.func f) fs.toArray cs.toArray))(hx:evs l xs=some vs)(hu:fs++(vs++cs)=us)
  (hc:∀w,Hp w0 F m w→Pu P f us.toArray w v):HO P ⟨some d,.call ⟨.value x,xs.toArray,tys⟩,ty,pos,after,g⟩ Q N l (Hp w0 F m) (α:=Unit) (fun _=>(d,v)::l) (fun _=>Hp w0 F m):=
 zsz (val:=fun _=>v) hok (zzp hf hb hx hu) (fun w hw=>(hc w hw).calls.mono fun _ _ ⟨he,hf⟩=>⟨(),he,hw.keep hf⟩)
variable{off:Nat}
theorem zcf(hc:c≠i):zwe (some ⟨b,off,none⟩) (decide (c=i)) (i*sz)=some ⟨b,off+i*sz,none⟩:=by
 simp only[zwe,decide_eq_false hc,bT,if_false,bZ,zde]
theorem s_{G X:Prop}(k:G)(h:G→X:=by first|with_reducible (first|exact zr5|exact zkr|exact zno|exact qep|exact zq4|exact ztm|exact zu3|exact zka|exact zfj|exact zg0|exact zfi|exact zd0|exact zeo|fail) |with_reducible exact zfh rfl|exact l_w rfl (by first|exact zi4 rfl|exact zgm rfl|exact qit rfl rfl|exact ze2 rfl rfl|exact zea rfl rfl|exact zhv rfl rfl|exact zmm rfl rfl|exact zgn rfl rfl|exact qlq rfl|exact zgo rfl rfl (by repeat first|exact .head _|apply List.Mem.tail) |exact zc5 rfl rfl (by repeat first|exact .head _|apply List.Mem.tail) rfl|exact zcw rfl rfl (by repeat first|exact .head _|apply List.Mem.tail) |exact zv3 rfl rfl rfl|((first|refine qjf rfl rfl ?_ |refine zra rfl rfl rfl ?_ |refine zv4 rfl rfl rfl ?_ |refine qlv rfl rfl rfl ?_ |refine qlt rfl rfl rfl ?_ |refine qlu rfl rfl rfl ?_ |refine v_sFT rfl rfl rfl rfl ?_ |refine qlp rfl rfl rfl rfl ?_ |refine qlo rfl rfl rfl ?_ |refine qln rfl rfl rfl ?_);first|omega|assumption|fail) |exact qls rfl rfl (by first|omega|assumption|(simp;done) |fail) |exact qlr rfl rfl (by first|omega|assumption|(simp;done) |fail) |exact v_pickB rfl rfl rfl|fail) |exact qp1 rfl|exact t_T rfl rfl (by first|omega|assumption|(simp;done) |fail) |exact t_F rfl rfl (by first|omega|assumption|(simp;done) |fail) |exact l_T rfl rfl (by first|omega|assumption|(simp;done) |fail) |exact l_F rfl rfl (by first|omega|assumption|(simp;done) |fail) |fail):X:=h k
theorem d_{G X:Prop}(k:G)(h:G→X:=by first|exact d_w [] rfl rfl rfl kQ (fun _ h=>h) (by first|exact zi4 rfl|exact zgm rfl|exact qit rfl rfl|exact ze2 rfl rfl|exact zea rfl rfl|exact zhv rfl rfl|exact zmm rfl rfl|exact zgn rfl rfl|exact qlq rfl|exact zgo rfl rfl (by repeat first|exact .head _|apply List.Mem.tail) |exact zc5 rfl rfl (by repeat first|exact .head _|apply List.Mem.tail) rfl|exact zcw rfl rfl (by repeat first|exact .head _|apply List.Mem.tail) |exact zv3 rfl rfl rfl|((first|refine qjf rfl rfl ?_ |refine zra rfl rfl rfl ?_ |refine zv4 rfl rfl rfl ?_ |refine qlv rfl rfl rfl ?_ |refine qlt rfl rfl rfl ?_ |refine qlu rfl rfl rfl ?_ |refine v_sFT rfl rfl rfl rfl ?_ |refine qlp rfl rfl rfl rfl ?_ |refine qlo rfl rfl rfl ?_ |refine qln rfl rfl rfl ?_);first|omega|assumption|fail) |exact qls rfl rfl (by first|omega|assumption|(simp;done) |fail) |exact qlr rfl rfl (by first|omega|assumption|(simp;done) |fail) |exact v_pickB rfl rfl rfl|fail) |exact qez [] rfl rfl rfl kQ (fun _ h=>h) |exact d_T [] rfl rfl rfl rfl (by first|omega|assumption|(simp;done) |fail) |exact d_F [] rfl rfl rfl rfl (by first|omega|assumption|(simp;done) |fail) |fail):X:=h k
section
def za4(L:List Item):Nat→Prop:=fun k=>∃it∈L,it.foot k
def zbq(it:Item)(w:World):Prop:=it.prop w∧it.Stable none'∧∀k,it.foot k→k<w.heap.size
theorem Item.Stable.ro{it:Item}(h:it.Stable none')(ro:Nat→Prop):it.Stable ro:=fun w w' hk hp=>h w w' (fun k hk'=>hk k (.inr (hk'.resolve_left fun f=>f.elim))) hp
variable{L:List Item}
theorem Hp.begin(h:∀it∈L,zbq it w)(ha:L.Pairwise Item.Apart)(F:Nat→Prop)(hF:∀k,za4 L k→F k):Hp w F L w:=
 ⟨.refl _ _,fun it hm=>⟨(h it hm).1,(h it hm).2.1.ro _,fun k hk=>⟨(h it hm).2.2 k hk,fun _=>hF k ⟨it,hm,hk⟩⟩⟩,ha⟩
def zef(L:List Item):Item:=⟨za4 L,fun w=>(∀it∈L,zbq it w)∧L.Pairwise Item.Apart⟩
theorem zk4(h:∀it∈L,zbq it w)(ha:L.Pairwise Item.Apart):zbq (zef L) w:=by
 refine⟨⟨h,ha⟩,fun w1 w2 hk hp=>⟨fun it hm=>?_,hp.2⟩,fun k ⟨it,hm,hk⟩=>(h it hm).2.2 k hk⟩
 obtain⟨h1,h2,h3⟩:=hp.1 it hm
 have he:∀k,it.foot k→w2.heap[k]? =w1.heap[k]? :=fun k hf=>hk k (.inr ⟨it,hm,hf⟩)
 refine⟨h2 w1 w2 (fun k hf=>he k (hf.resolve_left fun f=>f.elim)) h1,h2,fun k hf=>?_⟩
 have:=he k hf
 have h4:=h3 k hf
 rw[dH h4]at this
 exact(bR.1 this).1
theorem zad(L:List Item):(zef L).Stable none':=fun w1 w2 hk hp=>by
 have h:=zk4 hp.1 hp.2
 exact h.2.1 w1 w2 hk hp
variable{σ:Type}
def Yd(P:Program)(ly:Nat)(Y:σ→Item)(s:σ)(args:Array Value)(R:Bool→σ→Prop):Prop:=
 ∀w,zbq (Y s) w→YieldAt Fence.wide 0 P ly args w fun e w'=>∃b s',e= .returned (.bool b)∧R b s'∧Its (Y s).foot w [Y s'] w'
variable{ly:Nat}
theorem zqs{d:Option Tmp}{n:Next}(hf:evO l x=some (.func (.yield ly) #[] #[]))(hx:evs l xs=some vs)(hr:(Instr.yield ly vs.toArray).run P w= .ok n w):
  (execOp (ev l) ⟨d,.call ⟨.value x,xs.toArray,tys⟩,ty,pos,after,g⟩).run P w= .ok n w:=by
 simp only[execOp,resolve,Deferred.ofValue,zar hf,fS,zij hx]
 simp[invoke,hr]
theorem zz8{Y:σ→Item}{s:σ}{R:Bool→σ→Prop}
  (hg:okG ops l g=true) (hok:zee N l (.call ⟨.value x,xs.toArray,tys⟩) d=true) (hf:evO l x=some (.func (.yield ly) #[] #[])) (hx:evs l xs=some vs) (hst:(Y s).Stable none') (hy:Yd P ly Y s vs.toArray R)
  (k:∀b s',R b s'→HL P ops Q N rest ((d,.bool b)::l) (Hp w0 F (Y s'::m))):HL P ops Q N (⟨some d,.call ⟨.value x,xs.toArray,tys⟩,ty,pos,after,g⟩::rest) l (Hp w0 F (Y s::m)):=by
 unfold HL at*
 obtain⟨hs,hN,hk⟩:=ze0 hok
 intro a w st hw
 unfold wpListIn
 rw[if_pos (zkl st hg)]
 refine⟨fun _ _=>trivial,?_⟩
 have hin:=hw.item (Y s) sQ
 obtain⟨fn,tmps,asg,body,hr,hround⟩:=hy w ⟨hin.1,hst,fun k hk=>(hin.2.2 k hk).1⟩
 rw[Oper.semAt_eq _ _ _ (zm4 (zl6 hok)),st.exec _ hs hk,zqs hf hx hr,Oper.uponIn_round]
 have h1:RoundIn (fw N.r) 0 P ly fn tmps asg body w _:=hround
 refine⟨zla _,h1.mono fun e w' ⟨b,s',he,hR,hi⟩=>?_⟩
 subst he
 have hw':Hp w0 F ([Y s']++m) w':=Hp.call (m:=[Y s]) hw hi (fun k _ hk=>⟨Y s,by simp,hk⟩)
 exact k b s' hR _ _ (st.put hN _) hw'
end
section
structure Rc where
 fn:FuncId
 tmps:Array Value
 ps:Array Tmp
 assign:Code
 body:Code
 D:Nat
def Rc.at(c:Rc)(st:LoopState)(pe:Option Code):Obj:=.loop { state:=st,pending:=pe,fn:=c.fn,tmps:=c.tmps,params:=c.ps,assign:=c.assign,body:=c.body,defers:=c.D }
variable{W:World}{Fb:Nat→Prop}{L:List Item}
theorem Hp.its1(h:Hp W Fb L w)(hs:∀it∈L,it.Stable none'):Its Fb W [zef L] w:=by
 refine⟨h.fr,fun it hm=>?_,.cons (fun _ h=>by cases h) .nil⟩
 obtain rfl:it=zef L:=by simpa using hm
 refine⟨⟨fun it hm=>⟨(h.item it hm).1,hs it hm,fun k hk=>((h.item it hm).2.2 k hk).1⟩,h.apart⟩,zad L,fun k ⟨it,hm,hk⟩=>(h.item it hm).2.2 k hk⟩
theorem Hp.open1(h:Hp w0 F (zef L::m) w):Hp w0 F (L++m) w:=by
 have hb:=h.item (zef L) sQ
 refine⟨h.fr,fun it hm=>?_,bN.2 ⟨hb.1.2,(bP.1 h.apart).2,fun x hx y hy k hkx hky=>?_⟩⟩
 ·rcases aR.1 hm with hm|hm
  ·obtain⟨h1,h2,h3⟩:=hb.1.1 it hm
   exact⟨h1,h2.ro _,fun k hk=>hb.2.2 k ⟨it,hm,hk⟩⟩
  ·exact h.item it (jP _ hm)
 ·exact(bP.1 h.apart).1 y hy k ⟨x,hx,hkx⟩ hky
theorem Hp.put{o:Obj}(h:Hp W Fb (pt b o::m) w)(o':Obj):Hp W Fb (pt b o'::m) (w.putObj b o'):=
 h.turn o' (World.putObj_heap_same (bR.1 (h.get (o:=o) sQ)).1) (fun _ hk=>World.putObj_heap_other hk) World.putObj_size rfl rfl rfl
variable{σ:Type}
def qte(I J:Option Code→σ→Prop)(pe:Option Code)(s:σ):Prop:=match pe with|none=>I none s|some c=>J (some c) s
def qp6(e:Exit)(pe:Option Code):Prop:=match e with| .normal=>pe=none| .ret=>pe=some .ret | .exit id=>pe=some (.exit id) |_=>False
def qjh(ly:Nat)(rc:Rc)(B:σ→List Item)(I J:Option Code→σ→Prop)(L:List Item)(W:World):Ending→World→Prop:=fun e w'=>
 ∃(pe:Option Code) (s':σ),e= .returned (.bool pe.isNone)∧qte I J pe s'∧Its (za4 L) W [zef (pt ly (rc.at (if pe.isNone then .ready else .done) pe)::B s')] w'
variable{ly:Nat}{rc:Rc}
theorem ztw{B:σ→List Item}{I J:Option Code→σ→Prop}(e:Exit)(pe:Option Code)
  (he:qp6 e pe) (s':σ) (hI:qte I J pe s') (hs:(B s').Sublist m) (hst:∀it∈B s',it.Stable none'):
  HX (roundPost P ly (qjh ly rc B I J L W)) e N l (Hp W (za4 L) (pt ly (rc.at .busy none)::m)):=by
 unfold HX
 intro a w st hw
 have hrec:=hw.get (b:=ly) (o:=rc.at .busy none) sQ
 have hend:=run_endRound (P:=P) pe hrec
 have hw2:Hp W (za4 L) (pt ly (rc.at (if pe.isNone then .ready else .done) pe)::B s') (w.putObj ly (rc.at (if pe.isNone then .ready else .done) pe)):=(hw.put _).sub (.cons_cons _ hs)
 have hT:qjh ly rc B I J L W (.returned (.bool pe.isNone)) (w.putObj ly (rc.at (if pe.isNone then .ready else .done) pe)):=
  ⟨pe,s',rfl,hI,hw2.its1 fun it hm=>(aL.1 hm).elim (fun h=>h▸zab _ _ _) (hst it)⟩
 cases e with
 |normal=>subst he;exact⟨_,_,hend,hT⟩
 |ret=>subst he;exact⟨_,_,hend,hT⟩
 |exit id=>subst he;exact⟨_,_,hend,hT⟩
 |_=>exact he.elim
def zzd(P:Program)(ly:Nat)(body:Code)(R:Ending→World→Prop):Exit→Act→World→Prop:=
 Exit.then (fun a₁ w₁=>∃w₂,(Instr.beginRound ly).run P w₁= .ok () w₂∧WP P (some ly) body (roundPost P ly R) a₁ w₂) (fun _ _ _=>False)
theorem qly{ds:List Deferred}{body:Code}{R:Ending→World→Prop}
  (h:HT P body (roundPost P ly R) ⟨n,ds,some ly⟩ l (Hp W Fb (pt ly (rc.at .busy none)::m))):HX (zzd P ly body R) .normal ⟨n,ds,some ly⟩ l (Hp W Fb (pt ly (rc.at .ready none)::m)):=by
 unfold HX HT at*
 intro a w st hw
 exact⟨_,run_beginRound (hw.get (b:=ly) (o:=rc.at .ready none) sQ) rfl,h _ _ st (hw.put _)⟩
def zn8:List (Nat×Value)→zav→zav
 | [],l=>l
 |p::r,l=>zn8 r (p::l)
theorem St.round{n:Nat}{ly:Option Nat}:∀(ps:List (Nat×Value)) {l:zav} {a:Act},St ⟨n,[],ly⟩ l a→(∀p∈ps,p.1<n)→St ⟨n,[],ly⟩ (zn8 ps l) { a with tmps:=ps.foldl (fun t (p,v)=>t.setIfInBounds p v) a.tmps }
 | [],_,_,s,_=>s
 |(p,v)::r,l,a,s,h=>St.round r (a:={ a with tmps:=a.tmps.setIfInBounds p v }) (s.put (h (p,v) sQ) v) (fun q hq=>h q (by simp[hq]))
theorem qf4{β:Type}{f:β→Nat×Value→β}(ps:Array Nat)(vs:List Value)(t:β):(ps.zip vs.toArray).foldl f t=(ps.toList.zip vs).foldl f t:=by
 rw[←Array.foldl_toList];simp
end
section
variable{fn:Func}{R:Ending→World→Prop}
def zpc(P:Program)(fn:Func)(R:Ending→World→Prop):Exit→Act→World→Prop:=bodyPostM (fw none) 0 P fn R
def zry(D:Nat):Item:=pt D (.deferred (some []))
theorem zjy{tmps:Array Value}(h:∀w,Hp w0 F m w→LeavesInM (fw none) 0 P fn tmps R [] .returning w):∀(ds:List Nat) (w:World),Hp w0 F (ds.map zry++m) w→LeavesInM (fw none) 0 P fn tmps R (ds.map zel) .returning w
 | [],w,hw=>h w hw
 |D::ds,w,hw=>by
  have hD:=hw.get (b:=D) (o:=.deferred (some [])) (by simp[zry])
  have h1:Hp w0 F (pt D (.deferred none)::(ds.map zry++m)) (w.putObj D (.deferred none)):=Hp.put (m:=ds.map zry++m) hw _
  exact⟨by simp,.inl ⟨D,_,rfl,run_takeDeferred hD,zjy h ds _ (h1.sub (gB _ _))⟩⟩
theorem qa9(ds:List Nat)(h:HX (bodyPost P fn R) .ret ⟨n,[],none⟩ l (Hp w0 F m)):HX (zpc P fn R) .ret ⟨n,ds.map zel,none⟩ l (Hp w0 F (ds.map zry++m)):=by
 unfold HX at*
 intro a w st hw
 have h1:LeavesInM (fw none) 0 P fn a.tmps R a.defers .returning w:=by
  rw[st.defers]
  exact zjy (fun w' hw'=>(h { a with defers:=[] } w' ⟨st.size,rfl,st.slot⟩ hw').2) ds w hw
 exact h1
theorem ql0(ds:List Nat)(h:HX (bodyPost P fn R) .normal ⟨n,[],none⟩ l (Hp w0 F m)):HX (zpc P fn R) .normal ⟨n,ds.map zel,none⟩ l (Hp w0 F (ds.map zry++m)):=by
 unfold HX at*
 intro a w st hw
 have h1:LeavesInM (fw none) 0 P fn a.tmps R a.defers .returning w:=by
  rw[st.defers]
  exact zjy (fun w' hw'=>(h { a with defers:=[] } w' ⟨st.size,rfl,st.slot⟩ hw').2) ds w hw
 exact h1
theorem zri(h:HX (bodyPost P fn R) .ret ⟨n,[],none⟩ l (Hp w0 F m)):HX (zpc P fn R) .ret ⟨n,[],none⟩ l (Hp w0 F m):=qa9 [] h
theorem qi9{D:Nat}(h:HX (bodyPost P fn R) .ret ⟨n,[],none⟩ l (Hp w0 F m)):HX (zpc P fn R) .ret ⟨n,[zel D],none⟩ l (Hp w0 F (pt D (.deferred (some []))::m)):=qa9 [D] h
theorem qih(hn:Nat.ble vs.length n=true):St ⟨n,[],none⟩ (zaa 0 vs) { tmps:=vs.toArray++Array.replicate (n - vs.toArray.size) undef,defers:=[] }:=by
 refine⟨by simp at hn⊢;omega,rfl,fun t v hv=>?_⟩
 obtain⟨-,h2⟩:=znx vs 0 t v hv
 simp only[Nat.sub_zero]at h2
 have hlt:t<vs.length:=(aC.1 h2).1
 rw[kC (by simpa using hlt)]
 simpa using h2
variable{c:Code}
theorem zwr{w₀:World}(hf:P.funcs[f]? =some fn)(hb:fn.body=some c)(hn:Nat.ble vs.length fn.ntmps=true)(H:World→Prop)(hH:H w₀)
  (h:HT P c (zpc P fn R) ⟨fn.ntmps,[],none⟩ (zaa 0 vs) H):Calls P f vs.toArray w₀ R:=by
 unfold HT at h
 exact(callsIn_wide (n:=0)).1 (callsIn_of_wp_marks hf hb trivial (h _ _ (qih hn) hH) rfl)
theorem za2(vs:List Value)(pre:List Item)(hf:P.funcs[f]? =some fn)(hb:fn.body=some c)(hn:Nat.ble vs.length fn.ntmps=true)
  (hp:∀it∈pre,zbq it w0) (ha:pre.Pairwise Item.Apart)
  (h:HT P c (bodyPost P fn (zjn w0 (za4 pre) val φ its)) ⟨fn.ntmps,[],none⟩ (zaa 0 vs) (Hp w0 (za4 pre) pre)):Ct P f vs.toArray w0 (za4 pre) val φ its:=by
 unfold Ct;exact zol hf hb hn (Hp w0 (za4 pre) pre) (.begin hp ha _ fun _ h=>h) h
theorem zfb{pre:List Item}
  (hok:zee N l (.call ⟨.value (.func f),xs.toArray,tys⟩) d=true) (hb:za7 P f=true) (hx:evs l xs=some vs) (hst:∀it∈pre,it.Stable none')
  (hc:∀w,Hp w0 F (pre++m) w→(∀it∈pre,zbq it w)→pre.Pairwise Item.Apart→Ct P f vs.toArray w (za4 pre) val φ its):
  HO P ⟨some d,.call ⟨.value (.func f),xs.toArray,tys⟩,ty,pos,after,g⟩ Q N l (Hp w0 F (pre++m)) (α:={ x:α//φ x }) (fun x=>(d,val x.1)::l) (fun x=>Hp w0 F (its x.1++m)):=
 zsz (val:=fun x:{ x:α//φ x }=>val x.1) hok (qfz hb hx) (fun w hw=>(Ct.calls (hc w hw (fun it hm=>have h:=hw.item it (aP _ hm);⟨h.1,hst it hm,fun k hk=>(h.2.2 k hk).1⟩) (bN.1 hw.apart).1)).mono fun _ _ ⟨x,he,hx,hi⟩=>⟨⟨x,hx⟩,he,hw.call hi fun _ _ ⟨it,hm,hk⟩=>⟨it,hm,hk⟩⟩)
end
theorem zhw(hx:evs l xs=some vs):OV P (.makeFunc (.func f) #[] xs.toArray) ty l H (.func (.func f) #[] vs.toArray):=ov fun d pos after w _=>by
 simp only[execOp,fS,zij hx]
 simp[Instr.makeFunc]
 try rfl
variable{E:TypeId}{fz:Nat×Nat}
theorem zb5(hT:zja P T=true)(hm:pt b (.cells #[v] E fz)∈m):∀w,Hp w0 F m w→(loadVar T ⟨b,0,none⟩).run P w= .ok v w:=fun w hw=>by
 have:=zyh (P:=P) hT (zd4 (i:=0) (hw.get hm) (v:=v) rfl)
 simpa[Instr.loadAt,Instr.sureAddr]using this
theorem lCu(pre:List Item)(hx:evs l xs=some vs)(hst:∀it∈pre,it.Stable none')
 (hc:∀w,Hp w0 F (pre++m) w→(∀it∈pre,zbq it w)→pre.Pairwise Item.Apart→Ct P f vs.toArray w (za4 pre) val φ its) (k:∀x:{ x:α//φ x },HL P ops Q N rest ((d,val x.1)::l) (Hp w0 F (its x.1++m))) (hg:okG ops l g=true:=by rfl) (hok:zee N l (.call ⟨.value (.func f),xs.toArray,tys⟩) d=true:=by rfl) (hb:za7 P f=true:=by kernel_rfl):HL P ops Q N (⟨some d,.call ⟨.value (.func f),xs.toArray,tys⟩,ty,pos,after,g⟩::rest) l (Hp w0 F (pre++m)):=zeh hg (zfb hok hb hx hst hc) k
def Cw(P:Program)(f:FuncId)(args:Array Value)(pre:List Item)(val:α→Value)(φ:α→Prop)(its:α→List Item):Prop:=∀w,(∀it∈pre,zbq it w)→pre.Pairwise Item.Apart→Ct P f args w (za4 pre) val φ its
def Cv(P:Program)(f:FuncId)(args:Array Value)(pre:List Item)(val:α→Value)(φ:α→Prop)(its:α→List Item):Prop:=∀w,(∀it∈pre,zbq it w)→Ct P f args w (za4 pre) val φ its
def zc6(enc:α→List Value)(L:List α):List Value:=L.flatMap enc
section
variable{enc:α→List Value}
theorem zdx(hsz:∀a,(enc a).length=sz)(L:List α):(zc6 enc L).length=L.length*sz:=by
 induction L with
 |nil=>simp[zc6]
 |cons a L ih=>simp only[zc6,aV,aA,aW]at ih⊢;rw[ih,hsz,iL,jR,fT]
theorem zj3(L M:List α):zc6 enc (L++M)=zc6 enc L++zc6 enc M:=by simp[zc6]
theorem qh7(a:α):zc6 enc [a]=enc a:=by simp[zc6]
theorem zgx(a:α)(L:List α):zc6 enc (a::L)=enc a++zc6 enc L:=by simp[zc6]
theorem qej(hsz:∀a,(enc a).length=sz)(L:List α)(i:Nat):zc6 enc (L.drop i)=(zc6 enc L).drop (i*sz):=by
 induction L generalizing i with
 |nil=>simp[zc6]
 |cons a L ih=>
  cases i with
  |zero=>simp[zc6]
  |succ i=>
   have h1:(enc a).drop ((i+1)*sz)=[]:=fI (by rw[hsz,iL];omega)
   have h2:(i+1)*sz - (enc a).length=i*sz:=by rw[hsz,iL];omega
   rw[iO,zgx,ih,eK,h1,h2,aJ]
theorem qck(hsz:∀a,(enc a).length=sz){L:List α}(hi:i<L.length){j:Nat}(hj:j<sz):(zc6 enc L)[i*sz+j]? =(enc L[i])[j]? :=by
 have h:=qej hsz L i
 rw[bX hi,zgx]at h
 have h2:=congrArg (fun x=>x[j]?) h
 simp only[eG]at h2
 rw[←h2,cK (by rw[hsz];exact hj)]
end
variable{a:Option Addr}{xs:List Value}
theorem Rd.at_(h:Rd w a xs)(h0:xs≠[]):∃b off,a=some ⟨b,off,none⟩∧w.rangeAt b off xs:=by
 rcases h with h|⟨b,off,h1,h2⟩
 ·exact absurd h h0
 ·exact⟨b,off,h1,h2⟩
theorem Rd.row{enc:α→List Value}(hsz:∀a,(enc a).length=sz){L:List α}(h:w.rangeAt b off (zc6 enc L))(hi:i<L.length):w.rangeAt b (off+i*sz) (enc L[i]):=fun j v hv=>by
 have hj:j<sz:=by have:=(aC.1 hv).1;rwa[hsz]at this
 rw[eV]
 exact h _ _ (by rw[qck hsz hi hj];exact hv)
theorem Rd.mk(h:w.rangeAt b off xs):Rd w (some ⟨b,off,none⟩) xs:=.inr ⟨b,off,rfl,h⟩
theorem zfu{k:Nat}(h:w.rangeAt b off xs):w.rangeAt b off (xs.take k):=fun j v hv=>by
 rw[kH]at hv
 split at hv
 ·exact h j v hv
 ·cases hv
theorem zft{k:Nat}(h:w.rangeAt b off xs):w.rangeAt b (off+k) (xs.drop k):=fun j v hv=>by
 rw[eG]at hv
 rw[eV];exact h _ v hv
theorem za5(h:w0.rangeAt b off xs)(hF:¬F b)(hw:Hp w0 F m w):w.rangeAt b off xs:=fun j v hv=>hw.old hF (h j v hv)
theorem zbf(h:w.heap[b]? =some (.cells cs.toArray E fz)):w.rangeAt b 0 cs:=fun j v hv=>by
 rw[aH,cell_of_row w b j _ E fz h];simpa using hv
theorem zd7(h:(own e sz (some (b,c)) n xs).prop w):w.rangeAt b 0 xs:=fun j v hv=>by rw[aH];exact zby h j v hv
theorem zf6(hx:evO l x=some (.pointer (some ⟨b,off,none⟩)))(hT:zye P T=some xs.length)
  (hr:∀w,H w→w.rangeAt b off xs):OV P (.load T x) ty l H (.agg xs.toArray):=ov fun _ _ _ w hw=>by
 have hl:(loadVar T ⟨b,off,none⟩).run P w= .ok (.agg xs.toArray) w:=by
  unfold zye at hT
  split at hT
  ·rename_i hu;exact run_loadVar_mid (P:=P) w b off T _ _ (hr w hw) hu rfl hT
  ·rename_i hu;exact run_loadVar_mid (P:=P) w b off T _ _ (hr w hw) hu rfl hT
  ·cases hT
 simp only[execOp,zar hx,Instr.loadAt,Instr.sureAddr,Sem.run_bind,Sem.run_pure,Result.andThen_ok,hl]
theorem zgp{c:Array Value}(hx:evO l x=some (.pointer (some ⟨b,off,none⟩)))(hT:zye P T=some xs.length)
  (hr:∀w,H w→w.rangeAt b off xs) (hc:xs.toArray=c):OV P (.load T x) ty l H (.agg c):=by subst hc;exact zf6 hx hT hr
def put(cs:List Value)(off:Nat)(vs:List Value):List Value:=cs.take off++vs++cs.drop (off+vs.length)
theorem zgw(h:off+vs.length≤cs.length):(put cs off vs).length=cs.length:=by
 simp[put];omega
theorem Hp.setRow{w:World}{b:Nat}{cur:Array Value}{E:TypeId}{fz:Nat×Nat}(hw:Hp w0 F (pt b (.cells cur E fz)::m) w)(cs':Array Value):Hp w0 F (pt b (.cells cs' E fz)::m) (w.setRow b cs'):=
 hw.turn _ (setRow_heap w b cur cs' E fz (hw.get sQ)) (fun k hk=>setRow_other w b k _ hk) sQ rfl rfl rfl
variable{vs:Array Value}
theorem qk0(hok:(zez (.store T x y)&&zec l (.store T x y))=true)
  (hx:evO l x=some (.pointer (some ⟨b,off,none⟩))) (hy:evO l y=some (.agg vs)) (hT:(P.info? T).map (·.size)=some vs.size) (h1':zb7 vs.toList=true) (hs:off+vs.size≤cs.length):
  HO P ⟨none,.store T x y,ty,pos,after,g⟩ Q N l (Hp w0 F (pt b (.cells cs.toArray E (0,0))::m)) (α:=Unit) (fun _=>l) (fun _=>Hp w0 F (pt b (.cells (put cs off vs.toList).toArray E (0,0))::m)):=
 zs1 hok (fun w hw=>by
  have hb:=hw.get (b:=b) (o:=.cells cs.toArray E (0,0)) sQ
  have hst:=run_storeCells_at P b off E vs.toList 0 cs.toArray w hb (by simpa using hs) (zba.1 h1')
  refine⟨(),w.setRow b (put cs off vs.toList).toArray,?_,hw.setRow _⟩
  cases hq:P.info? T with
  |none=>simp[hq]at hT
  |some i=>
   have hsz:i.size=vs.size:=by simpa[hq]using hT
   simp only[fU]at hst
   simp[execOp,zar hx,zar hy,Instr.storeAt,Instr.sureAddr,storeVar,sizeOf,typeInfo,hq,Value.cells,hsz]
   rw[hst]
   simp[put])
theorem zvw(w:World)(dT sT ty elem:TypeId)(sz b o dLen dCap:Nat)(a:Option Addr)(sLen sCap:Nat)(cur:Array Value)(t:TypeId)(cs:List Value)
  (hu:P.underlying dT=some (.slice elem)) (hs:(P.info? elem).map (·.size)=some sz) (hg:w.heap[b]? =some (.cells cur t (0,0))) (hn:cs.length=Nat.min sLen dLen*sz)
  (hsrc:Rd w a cs) (h0:a=none→sLen=0) (hfit:o+cs.length≤cur.size) (h1:∀v∈cs,v.oneCell'=true):
  (Builtin.copy_ #[dT,sT] ty #[.slice (some ⟨b,o,none⟩) dLen dCap,.slice a sLen sCap]).run P w= .ok (goInt (Nat.min sLen dLen)) (w.setRow b (put cur.toList o cs).toArray):=by
 have hst:=run_storeCells_at P b o t cs 0 cur w hg (by simpa using hfit) h1
 simp only[fU]at hst
 cases hq:P.info? elem with
 |none=>simp[hq]at hs
 |some i=>
  have hi:i.size=sz:=by simpa[hq]using hs
  cases a with
  |none=>
   obtain rfl:=h0 rfl
   have hmin:Nat.min 0 dLen=0:=Nat.zero_min _
   rw[hmin,lE]at hn
   obtain rfl:cs=[]:=bQ hn
   simp[Builtin.copy_,run_underlying hu,Builtin.lenOf,Builtin.firstCells,sizeOf,typeInfo,hq,hmin]
   simp[storeCells]
   simp[put]
   exact(setRow_self w b cur t (0,0) hg).symm
  |some a=>
   have hl:∀k,cs.length=k→(loadCells a k).run P w= .ok cs.toArray w:=fun k hk=>by
    subst hk
    refine run_loadCells_list (P:=P) w a cs fun j v hv=>?_
    rcases hsrc with h|⟨b',off',h,h2⟩
    ·subst h;simp at hv
    ·obtain rfl:=cR h
     rw[zde];exact h2 j v hv
   have:=hl _ hn
   simp[Builtin.copy_,run_underlying hu,Builtin.lenOf,Builtin.firstCells,sizeOf,typeInfo,hq,hi,this]
   rw[hst]
   simp[put]
theorem ziq{dT sT:TypeId}{o sLen sCap:Nat}{cur:List Value}{t:TypeId}(hok:zee N l (.call ⟨.builtin .copy, #[x,y], #[dT,sT]⟩) d=true)
  (hx:evO l x=some (.slice (some ⟨b,o,none⟩) n c)) (hy:evO l y=some (.slice a sLen sCap)) (hT:zmi P dT=some e) (he:zcd P e=some sz) (hn:cs.length=min sLen n*sz)
  (hsrc:∀w,Hp w0 F (pt b (.cells cur.toArray t (0,0))::m) w→Rd w a cs) (h0:a=none→sLen=0) (hfit:o+cs.length≤cur.length) (h1:zb7 cs=true):
  HO P ⟨some d,.call ⟨.builtin .copy, #[x,y], #[dT,sT]⟩,ty,pos,after,g⟩ Q N l (Hp w0 F (pt b (.cells cur.toArray t (0,0))::m)) (α:=Unit) (fun _=>(d,.int .i64 (min sLen n:Nat))::l) (fun _=>Hp w0 F (pt b (.cells (put cur o cs).toArray t (0,0))::m)):=
 zh6 (val:=fun _=>.int .i64 (min sLen n:Nat)) hok (fun w hw=>by
  obtain⟨i,hi,his⟩:=zbg he
  have hr:=zvw (P:=P) w dT sT ty e sz b o n c a sLen sCap cur.toArray t cs (zbs hT) (by rw[hi,bZ,his]) (hw.get sQ) hn (hsrc w hw) h0 (by simpa using hfit) (zba.1 h1)
  refine⟨(),_,?_,hw.setRow _⟩
  simp only[execOp,resolve,invoke,builtin]
  simp[zar hx,zar hy,hr,goInt])
theorem qon{k1 k2:IntKind}{i j:Int}[h:NatOf i n][h':NatOf j n](hok:zee N l (.makeSlice T x y) d=true)(hx:evO l x=some (.int k1 i))(hy:evO l y=some (.int k2 j))
  (hT:zmi P T=some e) (hi:zpt P e=some (sz,b,z)) (hb:(b+1)*n≤281474976710656):
  HO P ⟨some d,.makeSlice T x y,ty,pos,after,g⟩ Q N l (Hp w0 F m) (α:={ c:Nat//w0.heap.size≤c }) (fun c=>(d,.slice (some ⟨c.1,0,none⟩) n n)::l) (fun c=>Hp w0 F (pt c.1 (.cells (zds z (n*sz)).toArray e (0,0))::m)):=by
 obtain rfl:=h.eq;obtain rfl:=h'.eq
 exact zh6 (val:=fun c:{ b:Nat//w0.heap.size≤b }=>.slice (some ⟨c.1,0,none⟩) n n) hok (fun w hw=>by
  obtain⟨q,h1,h2,h3,h4⟩:=zh2 hi
  have hb':b*n+n≤281474976710656:=by rwa[iL,jR]at hb
  refine⟨⟨w.heap.size,hw.fr.size⟩,w.alloc (.cells (zds z (n*sz)).toArray e),?_,hw.alloc _⟩
  have hr:=run_make (P:=P) w T e q z (zbs hT) h1 h4 k1 k2 n n oQ oQ (by rw[h3];generalize hq:b*n=q at hb';rw[←jW,hq];omega) (by generalize b*n=q at hb';omega)
  have hm:madeCells z.cells (n*sz)=(zds z (n*sz)).toArray:=by
   apply Array.ext'
   simp[madeCells,zds,Array.toList_range]
  rw[h2,cB,hm]at hr
  simp only[execOp,zar hx,zar hy,Sem.run_bind,hr,Result.andThen_ok,Sem.run_pure])
theorem qr1{z:Operand}{k':IntKind}{p q:Int}{j:Nat}[h:NatOf p i][h':NatOf q j](hx:evO l x=some (.slice a n c))(hy:evO l y=some (.int k p))(hz:evO l z=some (.int k' q))(hT:zmi P T=some e)(he:zcd P e=some sz)(hi:i≤j∧j≤c):
  OV P (.slice T x none (some y) (some z)) ty l H (.slice a i j):=ov fun _ _ _ w _=>by
 obtain rfl:=h.eq;obtain rfl:=h'.eq
 have hu:=zbs hT
 have hu':P.underlying T=some (.slice (P.elem T)):=by rw[hu];simp[Program.elem,hu]
 have he':P.elem T=e:=by simp[Program.elem,hu]
 obtain⟨r,hq,hqs⟩:=zbg he
 have h:=run_slice_hm (P:=P) w T a n c hu' k k' i j oQ oQ oQ
 have hzz:(sizeOf (P.elem T)).run P w= .ok sz w:=by rw[he'];simp[sizeOf,typeInfo,hq,hqs]
 simp only[execOp,zar hx,bZ,fZ,zar hy,zar hz,Sem.run_bind,run_sliceAt_slice w T _ _ _ _ hu',h,hzz,Result.andThen_ok,cB,sliced]
 cases a<;>simp[Sem.run_pure,Addr.add]
theorem qm6{z:Operand}{k':IntKind}{p q:Int}{j:Nat}[h:NatOf p i][h':NatOf q j](hx:evO l x=some (.slice a n c))(hy:evO l y=some (.int k p))(hz:evO l z=some (.int k' q))(hT:zmi P T=some e)(he:zcd P e=some sz)(hi:i≤j∧j≤c):
  OV P (.slice T x (some y) (some z) none) ty l H (.slice (zwe a (decide (c=i)) (i*sz)) (j - i) (c - i)):=ov fun _ _ _ w _=>by
 obtain rfl:=h.eq;obtain rfl:=h'.eq
 have hu:=zbs hT
 have hu':P.underlying T=some (.slice (P.elem T)):=by rw[hu];simp[Program.elem,hu]
 have he':P.elem T=e:=by simp[Program.elem,hu]
 obtain⟨r,hq,hqs⟩:=zbg he
 have h:=run_slice_lh (P:=P) w T a n c hu' k k' i j oQ oQ oQ
 have hzz:(sizeOf (P.elem T)).run P w= .ok sz w:=by rw[he'];simp[sizeOf,typeInfo,hq,hqs]
 simp only[execOp,zar hx,bZ,fZ,zar hy,zar hz,Sem.run_bind,run_sliceAt_slice w T _ _ _ _ hu',h,hzz,Result.andThen_ok,cB,sliced,zwe]
 simp[Sem.run_pure]
abbrev Gh:=Nat→Option Obj
def Gh.In(h:Gh)(w:World):Prop:=∀b o,h b=some o→w.heap[b]? =some o
variable{m':List Item}
theorem zbr{e:Exit}(hI:∀w,Hp w0 F m w→Hp w0 F m' w)(h:HX Q e N l (Hp w0 F m')):HX Q e N l (Hp w0 F m):=by
 unfold HX at*;exact fun a w s hw=>h a w s (hI w hw)
theorem zg8{c:Code}(hI:∀w,Hp w0 F m w→Hp w0 F m' w)(h:HT P c Q N l (Hp w0 F m')):HT P c Q N l (Hp w0 F m):=by
 unfold HT at*;exact fun a w s hw=>h a w s (hI w hw)
theorem zcy(hI:∀w,Hp w0 F m w→Hp w0 F m' w)(h:HL P ops Q N rest l (Hp w0 F m')):HL P ops Q N rest l (Hp w0 F m):=by
 unfold HL at*;exact fun a w s hw=>h a w s (hI w hw)
theorem zjj(a b c d e f:α)(l:List α):(a::b::c::d::e::f::l).Perm (f::a::b::c::d::e::l):=(List.Perm.cons a (zji _ _ _ _ _ _)).trans (.swap _ _ _)
theorem znu(a b c d e f g:α)(l:List α):(a::b::c::d::e::f::g::l).Perm (g::a::b::c::d::e::f::l):=(List.Perm.cons a (zjj _ _ _ _ _ _ _)).trans (.swap _ _ _)
theorem zwo(a b c d e f g h:α)(l:List α):(a::b::c::d::e::f::g::h::l).Perm (h::a::b::c::d::e::f::g::l):=(List.Perm.cons a (znu _ _ _ _ _ _ _ _)).trans (.swap _ _ _)
theorem qtn{v:Addr}(hx:evO l x=some (.pointer (some v))):OV P (.nilCheck x) ty l H (.pointer (some v)):=ov fun _ _ _ w _=>by simp only[execOp,zar hx];rfl
theorem qov:put cs off []=cs:=by simp[put]
theorem zjz{V:List Value}(hok:(zez (.store T x y)&&zec l (.store T x y))=true)
  (hx:evO l x=some (.pointer (some ⟨b,off,none⟩))) (hy:evO l y=some (.agg vs)) (hv:vs.toList=V) (hT:(P.info? T).map (·.size)=some V.length) (h1':zb7 V=true) (hs:off+V.length≤cs.length):
  HO P ⟨none,.store T x y,ty,pos,after,g⟩ Q N l (Hp w0 F (pt b (.cells cs.toArray E (0,0))::m)) (α:=Unit) (fun _=>l) (fun _=>Hp w0 F (pt b (.cells (put cs off V).toArray E (0,0))::m)):=by
 subst hv
 rw[gA]at hT hs
 exact qk0 hok hx hy hT h1' hs
section
theorem zt7(i j:Nat){oi oj:Oper}{β:Type}{li:α→zav}{Hi:α→World→Prop}{lj:β→zav}{Hj:β→World→Prop}(hr0:Region.ready .any ops listed=[i,j]∧i<t∧j<t)(hi0:nth ops.toList i=some oi)(hj0:nth ops.toList j=some oj)(gi:oi.guard=none)(gj:oj.guard=none)
  (hi:HO P oi (zom Q) N l H li Hi) (hj:HO P oj (zom Q) N l H lj Hj) (hSi:∀x w,Hi x w→S w) (hSj:∀x w,Hj x w→S w)
  (ki:∀x,HD P ops Q S t N n (listed.setIfInBounds i true) (li x) (Hi x)) (kj:∀x,HD P ops Q S t N n (listed.setIfInBounds j true) (lj x) (Hj x)):HD P ops Q S t N (n+1) listed l H:=by
 unfold HD HO at*
 intro inv a w s hw
 have hi1:=zei hi0
 have hj1:=zei hj0
 obtain⟨hr,hlt,hlt'⟩:=hr0
 have hmi:i∈Region.ready .any ops listed:=by rw[hr];simp
 have hmj:j∈Region.ready .any ops listed:=by rw[hr];simp
 refine⟨fun h=>(by rw[hr]at h;cases h),fun k hk=>?_⟩
 rw[hr]at hk
 unfold wpOp
 rcases aL.1 hk with rfl|hk
 ·simp only[hi1]
  rw[if_pos (by simp[Region.wanted,gi])]
  exact .inl (And.right<|hi a w s hw _ fun x a' w' s' hw'=>⟨fun _=>hSi x w' hw',ki x (inv.set hmi hlt) a' w' s' hw'⟩)
 ·obtain rfl:k=j:=by simpa using hk
  simp only[hj1]
  rw[if_pos (by simp[Region.wanted,gj])]
  exact .inl (And.right<|hj a w s hw _ fun x a' w' s' hw'=>⟨fun _=>hSj x w' hw',kj x (inv.set hmj hlt') a' w' s' hw'⟩)
theorem zi0(hp:m.Perm m')(h:HD P ops Q S t N n listed l (Hp w0 F m')):HD P ops Q S t N n listed l (Hp w0 F m):=by
 unfold HD at*;exact fun inv a w s hw=>h inv a w s (hw.perm hp)
end
theorem zrb{cs:Array Value}(hx:evO l x=some (.pointer (some ⟨b,i,none⟩)))(hT:zja P T=true)
  (hm:pt b (.cells cs E fz)∈m) (hv:nth cs.toList i=some v):OV P (.load T x) ty l (Hp w0 F m) v:=zc5 hx hT hm (by rw[zp4]at hv;simpa using hv)
end Go.Eng
namespace Go.Eng
open Go.RowKit
open Go.Lib (strCells strCells_length run_append_room_string run_append_grow_string run_firstCells_string)
variable{P:Program}{Q:Exit→Act→World→Prop}{N:Fm}{l:zav}{H:World→Prop}{ops:Array Oper}{rest:List Oper}{w0:World}{F:Nat→Prop}{m:List Item}{ty:TypeId}{pos:String}{after:Array Edge}{g:Option (Nat×Bool)}{d:Nat}
def qmo(P:Program)(T:TypeId):Option TypeId:=match P.underlying T with|some (.pointer e)=>some e|_=>none
variable{T e:TypeId}
theorem zh9(h:qmo P T=some e):P.underlying T=some (.pointer e)∧P.underlying T=some (.pointer (P.pointee T)):=by
 unfold qmo at h
 split at h
 ·rename_i hu;rw[hu];cases h;exact⟨rfl,by simp[Program.pointee,hu]⟩
 ·cases h
variable{x:Operand}{p:Option Addr}
theorem qmx{U:TypeId}{y:Operand}(hx:evO l x=some (.pointer p))(hy:evO l y=some (.pointer none))(hT:qmo P T=some e):OV P (.binOp .eql T x y U) ty l H (.bool p.isNone):=zf5 hx hy fun w=>by
 show((binOp .eql T (.pointer p) (.pointer none)).run P w)=_
 exact run_eql_pointer_nil w T p (zh9 hT).2
theorem qm2{U:TypeId}{y:Operand}(hx:evO l x=some (.pointer p))(hy:evO l y=some (.pointer none))(hT:qmo P T=some e):OV P (.binOp .neq T x y U) ty l H (.bool (!p.isNone)):=zf5 hx hy fun w=>by
 show((binOp .neq T (.pointer p) (.pointer none)).run P w)=_
 exact run_neq_pointer_nil w T p (zh9 hT).2
theorem qm3{U:TypeId}{y:Operand}{a:Addr}(hx:evO l x=some (.pointer (some a)))(hy:evO l y=some (.pointer (some a)))(hT:qmo P T=some e)(hi:(P.info? e).isSome=true):OV P (.binOp .neq T x y U) ty l H (.bool false):=zf5 hx hy fun w=>by
 show((binOp .neq T (.pointer (some a)) (.pointer (some a))).run P w)=_
 obtain⟨j,hj⟩:=cI.1 hi
 exact Lib.run_neq_ptr_same w a (zh9 hT).1 hj
def qkh(P:Program)(T:TypeId):Bool:=match P.underlying T with|some .unsafePointer=>true|_=>false
theorem zsn(h:qkh P T=true):P.underlying T=some .unsafePointer:=by
 unfold qkh at h
 split at h
 ·assumption
 ·cases h
variable{cs:Array Value}{fz:Nat×Nat}
theorem qps{U E:TypeId}{b i:Nat}(hx:evO l x=some (.pointer (some ⟨b,i,none⟩)))(hT:qmo P T=some e)(hU:qkh P U=true)(hs:Nat.ble 1 ((zcd P e).getD 0)=true)(hm:pt b (.cells cs E fz)∈m)(hi:i<cs.size):OV P (.convert T U x) ty l (Hp w0 F m) (.pointer (some ⟨b,i,none⟩)):=ov fun _ _ _ w hw=>by
 have hb:=hw.get hm
 cases hq:zcd P e with
 |none=>rw[hq]at hs;cases hs
 |some n=>
  obtain⟨j,h1,h2⟩:=zbg hq
  rw[hq]at hs
  have hsh:w.shape? b=some (E,cs.size):=by simp[World.shape?,hb]
  simp only[execOp,zar hx,Sem.run_bind]
  rw[Lib.run_to_unsafe w ⟨b,i,none⟩ (zh9 hT).1 (zsn hU) h1 (by have:=bU hs;simp at this;omega) hsh hi]
  rfl
theorem qpm{U E:TypeId}{b i:Nat}(hx:evO l x=some (.pointer (some ⟨b,i,none⟩)))(hT:qmo P T=some e)(hU:qkh P U=true)(hs:(P.info? e).isSome=true)(hm:pt b (.cells cs E fz)∈m)(hl:liesAt P P.depth E (cs.size/P.cellsOf E) i e 1=true):OV P (.convert U T x) ty l (Hp w0 F m) (.pointer (some ⟨b,i,none⟩)):=ov fun _ _ _ w hw=>by
 have hb:=hw.get hm
 obtain⟨j,hj⟩:=cI.1 hs
 have hsh:w.shape? b=some (E,cs.size):=by simp[World.shape?,hb]
 simp only[execOp,zar hx,Sem.run_bind]
 rw[Lib.run_from_unsafe w ⟨b,i,none⟩ (zsn hU) (zh9 hT).1 hj hsh hl]
 rfl
def zae(s:List UInt8):List Value:=s.map fun b=>Value.int .u8 b.toNat
theorem zq0(s:ByteArray):strCells s=zae s.data.toList:=by
 simp[strCells,zae]
variable{w:World}{o:Option (Nat×Nat)}{n:Nat}{xs:List Value}
theorem qfc{t u ty':TypeId}{i:TypeInfo}(ht:P.underlying t=some (.slice e))(hu:P.underlying u=some .string)(hi:P.info? e=some i)(hz:i.zero=some (.int .u8 0))(hs1:i.size=1)(hby:i.bytes=1)(hown:(own e 1 o n xs).prop w)(s:ByteArray)(h63:n+s.size≤140737488355328):
  ∃o' w',(Builtin.append_ #[t,u] ty' #[slV o n,.string s]).run P w= .ok (slV o' (n+s.size)) w'∧Its (fun k=>∃c,o=some (k,c)) w [own e 1 o' (n+s.size) (xs++strCells s)] w':=by
 have hrow:=zvn hown
 have hxl:xs.length=n:=by simpa using hrow.1
 have hlen:(xs++strCells s).length=(n+s.size)*1:=by rw[aA,hxl,strCells_length,bO]
 have hmx:n+s.size≤maxLen:=by unfold maxLen;omega
 have grown:∀(old:Nat),old<n+s.size→
   Its (fun k=>∃c,o=some (k,c)) w [own e 1 (some (w.heap.size,grownCap w (n+s.size) old e)) (n+s.size) (xs++strCells s)] (w.drew.alloc (.cells (xs.toArray++(strCells s).toArray++Builtin.zeroCells (Value.int .u8 0).cells (grownCap w (n+s.size) old e - (n+s.size))) e)):=by
  intro old ho
  have hge:=grownCap_ge w (n+s.size) old e
  refine zlc ⟨hlen,hge,grownCap_le_maxLen w (n+s.size) old e hmx,_,heap_alloc_new w.drew _,?_,?_⟩ (zk8 rfl rfl rfl sQ fun j hj _=>Below.heap_alloc w.drew _ j hj) (fun b c' h=>.inl (by cases h;exact bA _))
  ·have hz1:(Value.int IntKind.u8 0).cells.size=1:=rfl
   simp only[kM,aI,size_zeroCells,hz1,hxl,strCells_length]
   omega
  ·simp only[iN,aG]
   rw[←aG,←hlen]
   exact gX
 match o,hown with
 |none,hown=>
  obtain rfl:n=0:=hown.2
  obtain rfl:xs=[]:=bQ hxl
  by_cases hm:s.size=0
  ·have hn:strCells s=[]:=bQ (by rw[strCells_length];exact hm)
   refine⟨none,w,?_,?_⟩
   ·have hf:=run_firstCells_string (P:=P) w 1 s
    rw[hm]at hf
    simp[Builtin.append_,run_underlying ht,run_underlying hu,sizeOf,typeInfo,hi,hs1,Builtin.lenOf,hm,hf,slV]
   ·rw[hn,hm]
    exact zlc (o:=none) hown (.refl _ _) (fun _ _ h=>by cases h)
  ·have hr:=run_append_nil_string (P:=P) w t u ty' e i (.int .u8 0) ht hu hi hz s oQ oQ (by rw[hby];omega)
   have hgr:=grown 0 oQ
   simp only[aH,aJ,Array.empty_append]at hgr⊢
   have e1:(s.data.map fun b=>Value.int .u8 b.toNat)=(strCells s).toArray:=by
    apply Array.ext'
    simp[strCells]
   rw[e1]at hr
   exact⟨some (w.heap.size,grownCap w s.size 0 e),_,hr,hgr⟩
 |some (b,cap),hown=>
  obtain⟨h2,h3,cur,h4,h5,h6⟩:=hown.2
  rw[bO]at h5 h6
  by_cases hroom:n+s.size≤cap
  ·have hr:=run_append_room_string (P:=P) w t u ty' e i ht hu hi hs1 b n cap cur h4 s hroom oQ
   refine⟨some (b,cap),_,hr,zlc ⟨hlen,hroom,h3,_,setRow_heap w b cur _ e _ h4,?_,?_⟩ (zk8 rfl rfl rfl sQ fun j _ hj=>setRow_other w b j _ (fun e=>hj ⟨cap,by rw[e]⟩)) (fun b' c' h=>.inr ⟨c',h⟩)⟩
   ·simp only[aI,aA,aM,aX,gA,strCells_length]
    omega
   ·rw[h6,←hlen]
    exact gX
  ·have hr:=run_append_grow_string (P:=P) w t u ty' e i (.int .u8 0) ht hu hi hz ⟨b,0,none⟩ n cap xs (by rw[hs1];simpa using hxl) (hrow.cells (g:=b) rfl) s oQ oQ (by rw[hby];exact growslice_fits oQ oQ)
   exact⟨some (w.heap.size,grownCap w (n+s.size) cap e),_,hr,grown cap oQ⟩
def qjq(P:Program)(e:TypeId):Bool:=match P.info? e with|some ⟨_,_,sz,bt,_,_,_,some (.int .u8 0),_,_⟩=>Nat.beq sz 1&&Nat.beq bt 1|_=>false
theorem zsb(h:qjq P e=true):∃i,P.info? e=some i∧i.zero=some (.int .u8 0)∧i.size=1∧i.bytes=1:=by
 unfold qjq at h
 split at h
 ·rename_i hi
  simp only[bH]at h
  exact⟨_,hi,rfl,gJ h.1,gJ h.2⟩
 ·cases h
theorem qb5{U T':TypeId}{y:Operand}{s:ByteArray}(hok:zee N l (.call ⟨.builtin .append, #[x,y], #[T,U]⟩) d=true)(hx:evO l x=some (slV o n))(hy:evO l y=some (.string s))
  (hT:zmi P T=some e) (hU:P.underlying U=some .string) (he:qjq P e=true) (hn:n+s.size≤140737488355328):
  HO P ⟨some d,.call ⟨.builtin .append, #[x,y], #[T,U]⟩,T',pos,after,g⟩ Q N l (Hp w0 F (own e 1 o n xs::m)) (α:=Option (Nat×Nat)) (fun o'=>(d,slV o' (n+s.size))::l) (fun o'=>Hp w0 F (own e 1 o' (n+s.size) (xs++zae s.data.toList)::m)):=
 zh6 (val:=fun o'=>slV o' (n+s.size)) hok (fun w hw=>by
  obtain⟨i,h1,h2,h3,h4⟩:=zsb he
  obtain⟨o',w',hr,hits⟩:=qfc (P:=P) (ty':=T') (zbs hT) hU h1 h2 h3 h4 (hw.item (own e 1 o n xs) sQ).1 s hn
  rw[zq0]at hits
  refine⟨o',w',?_,Hp.call (m:=[own e 1 o n xs]) hw hits (fun k' _ hk=>⟨own e 1 o n xs,by simp,hk⟩)⟩
  simp only[execOp,resolve,invoke,builtin]
  simp[zar hx,zar hy,hr])
variable{fn:Func}
theorem qsz{f:FuncId}{t:TypeId}{tys:Array TypeId}{k:Int}[h:NatOf k n](hok:zee N l (.call ⟨.value (.func f), #[x],tys⟩) d=true)(hf:P.funcs[f]? =some fn)(hname:(fn.name== "runtime.NumGoroutine")=false)(hb:fn.body.isNone=true)(hne:Extern.findNext fn=none)
  (he:Extern.find fn=some (Extern.BytealgMakeNoZero.makeNoZero fn.params fn.resultTypes)) (hr:fn.resultTypes= #[t]) (hT:zmi P t=some e) (hx:evO l x=some (.int .i64 k)) (hn:n≤281474976710656):
  HO P ⟨some d,.call ⟨.value (.func f), #[x],tys⟩,ty,pos,after,g⟩ Q N l (Hp w0 F m) (α:={ p:Nat×Array Value//n≤p.2.size∧p.2.size≤maxLen }) (fun p=>(d,.slice (some ⟨p.1.1,0,none⟩) n p.1.2.size)::l) (fun p=>Hp w0 F (pt p.1.1 (.cells p.1.2 e (0,0))::m)):=by
 obtain rfl:=h.eq
 exact zh6 (val:=fun p:{ p:Nat×Array Value//n≤p.2.size∧p.2.size≤maxLen }=>.slice (some ⟨p.1.1,0,none⟩) n p.1.2.size) hok (fun w hw=>by
  obtain⟨cs,h1,h2,h3⟩:=Lib.run_makeNoZero (P:=P) w fn.params t e (zbs hT) n hn
  refine⟨⟨(w.heap.size,cs),h2,h3 (by unfold maxLen;omega)⟩,_,?_,hw.drew.drew.alloc (.cells cs e)⟩
  have hcall:(callFunc f #[.int .i64 (n:Int)]).run P w= .ok (.value (.slice (some ⟨w.heap.size,0,none⟩) n cs.size)) (w.drew.drew.alloc (.cells cs e)):=by
   rw[run_callFunc_extern hf hname hb hne he,hr,h1];rfl
  simp only[execOp,resolve,Deferred.ofValue,ev]
  simp[zar hx,invoke,hcall])
theorem qtb{T:Array TypeId}{b c:Nat}(hx:evO l x=some (.slice (some ⟨b,0,none⟩) n c))(hc:c≠0):OV P (.call ⟨.builtin .unsafeSliceData, #[x],T⟩) ty l H (.pointer (some ⟨b,0,none⟩)):=ov fun _ _ _ w _=>by
 have h:=Lib.run_unsafeSliceData_row (P:=P) w T ty ⟨b,0,none⟩ n c hc
 simp only[execOp,resolve,invoke,builtin]
 simp[zar hx,h]
theorem zw9{b k:Nat}(h:k≠b):(w.freeze ⟨b,0,none⟩ n).heap[k]? =w.heap[k]? :=by
 unfold World.freeze
 split
 ·rfl
 ·simp[fA,Ne.symm h]
theorem zzw{b:Nat}:(w.freeze ⟨b,0,none⟩ n).heap.size=w.heap.size:=by
 unfold World.freeze
 split<;>simp
theorem zzu{b:Nat}:(w.freeze ⟨b,0,none⟩ n).os=w.os∧(w.freeze ⟨b,0,none⟩ n).tape=w.tape∧(w.freeze ⟨b,0,none⟩ n).output=w.output:=by
 unfold World.freeze
 split<;>exact⟨rfl,rfl,rfl⟩
theorem zk0{α:Type}{val:α→Value}{φ:α→Prop}{its:α→List Item}(x:α)(hf:fn.results= #[])(e: .tuple #[]=val x)(hφ:φ x)(hs:(its x).Sublist m)(hst:∀it∈its x,it.Stable none'):HX (bodyPost P fn (zjn w0 F val φ its)) .normal ⟨n,[],none⟩ l (Hp w0 F m):=
 qc4 hf fun _ hw=>⟨x,by rw[e],hφ,hw.its hs hst⟩
theorem qmw{a:Option Addr}{c:Nat}(hx:evO l x=some (.slice a n c))(hT:(zmi P T).isSome=true):OV P (.call ⟨.builtin .cap, #[x], #[T]⟩) ty l H (.int .i64 c):=ov fun _ _ _ w _=>by
 obtain⟨e,he⟩:=cI.1 hT
 simp[execOp,resolve,invoke,builtin,zar hx,Builtin.cap_,run_underlying (zbs he) w,goInt]
theorem qo3{id:Nat}{r:List Oper}{it:Item}(hm:zjo P r=true)(h:HD P r.toArray Q (Hp w0 F m) r.length N r.length (Array.replicate r.length false) l (Hp w0 F (it::m))):HT P (.region id r.toArray true) Q N l (Hp w0 F (it::m)):=by
 unfold HT HD at*
 intro a w s hw
 simp only[zjo,bH,eJ]at hm
 refine wpIn_mono (wpIn_region_any (Q:=zom Q) hm.1 (zwl (by simpa using hm.2) zon N.r _ _ _ _ (zid (S:=Hp w0 F m) (t:=r.length) _ _ _ _ ?_))) (fun _ _ _ h=>zpe h)
 have:=h (by simpa using zgh r.toArray r.length) a w.drew s hw.drew
 simpa using this
end Go.Eng
