/- Parts: A small calculus over the guide's wp rules; Operations on integers; Slices and strings; '==' between values that are made of integers; Bytes as strings; A guarded operation of a region that draws; What a guard says; Strings and slices. No condition. -/
import Derived.WalkKit
import Derived.Deep.MidRow
import Derived.StillTail
import Derived.RangeFuncIn
import Derived.OrdersIn
import Derived.RangeFuncCalls
import Derived.Sort.LoopGhostIn
import Derived.IntWalk
import Derived.Laws.MakeOwn
import Derived.Laws.Append
import Derived.Laws.AppendOwn
import Derived.Laws.IdiomStrings
import Derived.Laws.BytesString
import Derived.Laws.StructEq
import Derived.Laws.Strings2
import Derived.Laws.Strings3
namespace Go.Eng
open Go.RowKit
abbrev aA:= @List.length_append
abbrev aB:= @List.getElem?_eq_getElem
abbrev aC:= @List.getElem?_eq_some_iff
abbrev aD:= @List.length_map
abbrev aE:= @List.getD_eq_getElem?_getD
abbrev aF:= @List.cons_append
abbrev aG:= @List.append_assoc
abbrev aH:= @Nat.zero_add
abbrev aI:= @List.size_toArray
abbrev aJ:= @List.nil_append
abbrev aK:= @List.nil_sublist
abbrev aL:= @List.mem_cons
abbrev aM:= @List.length_take
abbrev aN:= @List.mem_singleton
abbrev aO:= @List.getElem?_map
abbrev aP:= @List.mem_append_left
abbrev aR:= @List.mem_append
abbrev aS:= @List.mem_map
abbrev aT:= @List.getElem_mem
abbrev aU:= @List.mem_append_right
abbrev aV:= @List.flatMap_cons
abbrev aW:= @List.length_cons
abbrev aX:= @List.length_drop
abbrev aY:= @Nat.lt_of_lt_of_le
abbrev aZ:= @Nat.zero_le
abbrev bA:= @Nat.le_refl
abbrev bB:= @List.flatMap_append
abbrev bC:= @List.append_nil
abbrev bD:= @Nat.mod_eq_of_lt
abbrev bE:= @List.length_set
abbrev bF:= @List.take_append_drop
abbrev bG:= @List.map_cons
abbrev bH:= @Bool.and_eq_true
abbrev bI:= @List.mem_of_getElem?
abbrev bJ:= @List.take_of_length_le
abbrev bK:= @Bool.false_ne_true
abbrev bL:= @List.getElem_of_mem
abbrev bM:= @List.perm_middle
abbrev bN:= @List.pairwise_append
abbrev bO:= @Nat.mul_one
abbrev bP:= @List.pairwise_cons
abbrev bQ:= @List.eq_nil_of_length_eq_zero
abbrev bR:= @Array.getElem?_eq_some_iff
abbrev bS:= @List.mem_flatMap
abbrev bT:= @Bool.false_eq_true
abbrev bU:= @Nat.le_of_ble_eq_true
abbrev bV:= @List.perm_append_comm_assoc
abbrev bW:= @BitVec.toNat_ofNat
abbrev bX:= @List.drop_eq_getElem_cons
abbrev bY:= @List.mem_of_mem_take
abbrev bZ:= @Option.map_some
abbrev cA:= @List.length_singleton
abbrev cB:= @Int.toNat_natCast
abbrev cC:= @List.map_append
abbrev cD:= @List.length_replicate
abbrev cE:= @List.mem_of_mem_drop
abbrev cF:= @List.mem_or_eq_of_mem_set
abbrev cG:= @List.pairwise_iff_getElem
abbrev cH:= @Nat.le_trans
abbrev cI:= @Option.isSome_iff_exists
abbrev cJ:= @List.lookup_cons
abbrev cK:= @List.getElem?_append_left
abbrev cL:= @Nat.lt_of_le_of_lt
abbrev cM:= @List.Perm.append_right
abbrev cN:= @List.nodup_append
abbrev cO:= @Option.some.injEq
abbrev cP:= @List.nodup_cons
abbrev cR:= @Option.some.inj
abbrev cS:= @List.getElem_map
abbrev cT:= @List.map_congr_left
abbrev cU:= @List.Perm.append_left
abbrev cV:= @List.take_add_one
abbrev cW:= @List.perm_append_comm
abbrev cX:= @List.drop_eq_nil_of_le
abbrev cY:= @List.filter_eq_self
abbrev cZ:= @List.getElem?_append_right
abbrev dA:= @List.take_succ_eq_append_getElem
abbrev dB:= @Nat.min_eq_left
abbrev dD:= @List.exists_mem_of_ne_nil
abbrev dE:= @List.setIfInBounds_toArray
abbrev dG:= @List.getElem?_eq_none
abbrev dH:= @Array.getElem?_eq_getElem
abbrev dI:= @List.sublist_append_right
abbrev dJ:= @List.map_map
abbrev dK:= @Nat.pow_le_pow_right
abbrev dL:= @List.mem_range
abbrev dM:= @List.Pairwise.sublist
abbrev dN:= @List.getElem_set_self
abbrev dO:= @List.drop_set_of_lt
abbrev dP:= @List.mem_filter
abbrev dR:= @Array.getElem?_eq_none
abbrev dS:= @List.getElem?_set_self
abbrev dU:= @List.getElem_cons_drop
abbrev dW:= @List.getElem_drop
abbrev dX:= @Array.setIfInBounds_comm
abbrev dY:= @Nat.mod_lt
abbrev dZ:= @Array.getElem?_toList
abbrev eA:= @Bool.eq_iff_iff
abbrev eB:= @List.pairwise_singleton
abbrev eD:= @Option.getD_some
abbrev eE:= @List.getElem_take
abbrev eF:= @List.find?_eq_none
abbrev eG:= @List.getElem?_drop
abbrev eH:= @Bool.false_and
abbrev eI:= @List.length_nil
abbrev eJ:= @List.all_eq_true
abbrev eK:= @List.drop_append
abbrev eL:= @List.map_drop
abbrev eM:= @List.map_take
abbrev eN:= @Nat.lt_succ_self
abbrev eO:= @List.getElem?_range
abbrev eP:= @List.take_set_of_le
abbrev eQ:= @Nat.lt_succ_of_lt
abbrev eR:= @List.filter_cons_of_neg
abbrev eS:= @List.length_eraseIdx_of_lt
abbrev eT:= @List.nodup_nil
abbrev eU:= @Nat.eq_of_testBit_eq
abbrev eV:= @Nat.add_assoc
abbrev eW:= @Nat.div_le_self
abbrev eX:= @Nat.and_two_pow_sub_one_eq_mod
abbrev eY:= @Nat.succ_pos
abbrev eZ:= @Bool.not_eq_true'
abbrev fA:= @Array.getElem?_modify
abbrev fB:= @List.getElem?_toArray
abbrev fC:= @List.eq_of_mem_replicate
abbrev fD:= @List.sublist_append_left
abbrev fE:= @Nat.eq_zero_or_pos
abbrev fF:= @List.filter_cons_of_pos
abbrev fG:= @List.getElem?_set_ne
abbrev fH:= @Nat.mul_le_mul_right
abbrev fI:= @List.drop_of_length_le
abbrev fJ:= @List.drop_sublist
abbrev fK:= @List.perm_append_singleton
abbrev fL:= @List.take_sublist
abbrev fM:= @Nat.testBit_lt_two_pow
abbrev fN:= @Nat.mul_le_mul_left
abbrev fO:= @List.take_left'
abbrev fP:= @Nat.mul_add
abbrev fQ:= @Nat.not_lt_zero
abbrev fR:= @BitVec.toNat_and
abbrev fS:= @List.map_toArray
abbrev fT:= @Nat.add_comm
abbrev fU:= @Nat.add_zero
abbrev fV:= @Function.comp_def
abbrev fW:= @List.getElem?_cons_succ
abbrev fX:= @List.length_range
abbrev fY:= @Nat.add_sub_cancel_left
abbrev fZ:= @Option.map_none
abbrev gA:= @Array.length_toList
abbrev gB:= @List.sublist_cons_self
abbrev gC:= @Bool.true_and
abbrev gD:= @List.take_length
abbrev gE:= @Nat.le_add_right
abbrev gF:= @List.mem_cons_self
abbrev gG:= @List.zip_cons_cons
abbrev gH:= @Option.isSome_some
abbrev gI:= @List.length_filter_le
abbrev gJ:= @Nat.eq_of_beq_eq_true
abbrev gK:= @Classical.byContradiction
abbrev gL:= @Nat.and_le_left
abbrev gM:= @Array.toArray_toList
abbrev gN:= @List.ext_getElem?
abbrev gO:= @List.map_set
abbrev gQ:= @Nat.lt_or_ge
abbrev gR:= @Nat.pow_succ
abbrev gS:= @Bool.false_or
abbrev gT:= @List.sum_cons
abbrev gU:= @Prod.mk.injEq
abbrev gV:= @List.eraseIdx_eq_take_drop_succ
abbrev gW:= @List.getElem_set
abbrev gX:= @List.take_left
abbrev gZ:= @Option.bind_some
abbrev iA:= @Array.ext_getElem?
abbrev iB:= @List.filter_append
abbrev iC:= @List.find?_cons_of_pos
abbrev iD:= @List.zip_nil_right
abbrev iE:= @Bool.or_eq_true
abbrev iF:= @Array.toList_push
abbrev iG:= @List.find?_append
abbrev iH:= @Nat.lt_trichotomy
abbrev iI:= @Nat.two_pow_add_eq_or_of_lt
abbrev iJ:= @Int.fdiv_eq_ediv_of_nonneg
abbrev iK:= @List.exists_cons_of_ne_nil
abbrev iL:= @Nat.add_mul
abbrev iM:= @List.extract_eq_take_drop
abbrev iN:= @Array.toList_append
abbrev iO:= @List.drop_succ_cons
abbrev iP:= @List.length_pos_iff
abbrev iQ:= @Nat.testBit_two_pow
abbrev iR:= @List.of_mem_zip
abbrev iS:= @Nat.two_pow_pos
abbrev iT:= @List.lookup_append
abbrev iU:= @Nat.lt_or_gt_of_ne
abbrev iW:= @Option.isSome_none
abbrev iX:= @Int.eq_ofNat_of_zero_le
abbrev iY:= @List.eraseIdx_cons_succ
abbrev iZ:= @List.getElem?_replicate
abbrev jA:= @List.set_eq_take_append_cons_drop
abbrev jB:= @List.any_eq_false
abbrev jC:= @List.find?_cons_of_neg
abbrev jD:= @List.getElem_cons_zero
abbrev jE:= @List.length_filter_eq_length_iff
abbrev jF:= @Nat.le_of_eq
abbrev jG:= @Nat.testBit_eq_decide_div_mod_eq
abbrev jH:= @Array.getElem?_setIfInBounds_ne
abbrev jI:= @List.replicate_append_replicate
abbrev jJ:= @List.set_getElem_self
abbrev jK:= @List.singleton_append
abbrev jL:= @Array.eq_empty_of_size_eq_zero
abbrev jM:= @List.flatMap_nil
abbrev jN:= @Nat.div_eq_of_lt
abbrev jO:= @Bool.not_true
abbrev jP:= @List.mem_cons_of_mem
abbrev jQ:= @List.take_append_of_le_length
abbrev jR:= @Nat.one_mul
abbrev jS:= @Nat.pow_add
abbrev jT:= @Nat.pow_lt_pow_right
abbrev jU:= @Prod.mk.inj
abbrev jV:= @Array.getElem?_setIfInBounds
abbrev jW:= @Int.natCast_mul
abbrev jX:= @List.length_zip
abbrev jY:= @List.filter_sublist
abbrev jZ:= @List.map_nil
abbrev kA:= @Nat.mul_comm
abbrev kC:= @Array.getElem?_append_left
abbrev kD:= @Array.toList_setIfInBounds
abbrev kE:= @Bool.not_false
abbrev kF:= @Int.natCast_nonneg
abbrev kG:= @List.filter_filter
abbrev kH:= @List.getElem?_take
abbrev kI:= @List.perm_ext_iff_of_nodup
abbrev kJ:= @List.take_zero
abbrev kK:= @Nat.and_one_is_mod
abbrev kL:= @Nat.xor_lt_two_pow
abbrev kM:= @Array.size_append
abbrev kN:= @List.filter_congr
abbrev kO:= @List.foldl_append
abbrev kP:= @Nat.or_lt_two_pow
abbrev kR:= @Option.isSome_map
abbrev kS:= @BitVec.toNat_xor
abbrev kT:= @List.drop_length
abbrev kU:= @List.ext_getElem
abbrev kW:= @List.mem_reverse
abbrev kX:= @Option.getD_none
abbrev kY:= @Array.ext'
abbrev kZ:= @Bool.or_true
abbrev lA:= @Nat.beq_refl
abbrev lB:= @Nat.min_self
abbrev lD:= @Nat.sub_self
abbrev lE:= @Nat.zero_mul
abbrev lF:= @BitVec.toNat_or
abbrev lG:= @Int.natCast_add
abbrev lH:= @Nat.testBit_and
abbrev lI:= @Bool.and_false
abbrev lJ:= @List.drop_drop
abbrev lK:= @Nat.mod_one
abbrev lL:= @Nat.testBit_or
variable{p:Prop}
theorem kQ(h:p:=by kernel_rfl):p:=h
theorem oQ(h:p:=by omega):p:=h
theorem dQ(h:p:=by decide):p:=h
theorem sQ(h:p:=by simp):p:=h
theorem cQ(h:p:=by first|omega|assumption|(simp;done) |exact fun h=>h (by assumption) |fail):p:=h
theorem aQ(h:p:=by assumption):p:=h
theorem mm{α:Type _}{a:α}{l:List α}(h:a∈l:=by repeat first|exact .head _|apply List.Mem.tail):a∈l:=h
abbrev zav:=List (Nat×Value)
def get:zav→Nat→Option Value
 | [],_=>none
 |(k,v)::r,t=>bif Nat.beq k t then some v else get r t
def ev(l:zav):Operand→Value
 | .tmp t=>(get l t).getD undef
 | .const v=>v
 | .global g=>.pointer (some ⟨g,0,none⟩)
 | .func f=>.func (.func f) #[] #[]
def evO(l:zav):Operand→Option Value
 | .tmp t=>get l t
 | .const v=>some v
 | .global g=>some (.pointer (some ⟨g,0,none⟩))
 | .func f=>some (.func (.func f) #[] #[])
variable{l:zav}{v:Value}
theorem zar{x:Operand}(h:evO l x=some v):ev l x=v:=by
 cases x<;>simp_all [evO,ev]
def zex(l:zav):Operand→Bool
 | .tmp t=>(get l t).isSome
 |_=>true
def zec(l:zav)(o:Op):Bool:=o.operands.toList.all (zex l)
structure Fm where
 n:Nat
 ds:List Deferred
 r:Option Nat
def zel(D:Nat):Deferred:={ target:=.collected D,args:= #[] }
structure St (N:Fm) (l:zav) (a:Act):Prop where
 size:a.tmps.size=N.n
 defers:a.defers=N.ds
 slot:∀t v,get l t=some v→a.tmps[t]? =some v
theorem St.eval{N:Fm}{l:zav}{a:Act}(s:St N l a){x:Operand}(h:zex l x=true):a.eval x=ev l x:=by
 cases x with
 |tmp t=>
  simp only[zex]at h
  obtain⟨v,hv⟩:=cI.1 h
  have:=s.slot t v hv
  simp[Act.eval,ev,hv,this]
 |_=>rfl
variable{N:Fm}{a:Act}
theorem St.exec(s:St N l a)(o:Oper)(hs:∀cs b,o.op≠ .select cs b)(h:zec l o.op=true):execOp a.eval o=execOp (ev l) o:=
 execOp_congr o hs fun x hx=>s.eval (by
  simp only[zec,eJ]at h
  exact h x (by simpa using hx))
theorem zb4(l:zav)(k t:Nat)(v:Value):get ((k,v)::l) t=if k=t then some v else get l t:=by
 simp only[get]
 by_cases h:k=t
 ·subst h;simp
 ·have:Nat.beq k t=false:=by cases hb:Nat.beq k t with|false=>rfl|true=>exact absurd (gJ hb) h
  simp[h,this]
theorem St.put{N:Fm}{l:zav}{a:Act}(s:St N l a){d:Nat}(hd:d<N.n)(v:Value):St N ((d,v)::l) (a.put (some d) v):=by
 refine⟨by simp[Act.put,s.size],s.defers,fun t u h=>?_⟩
 rw[zb4]at h
 by_cases e:d=t
 ·subst e
  rw[if_pos rfl]at h
  simp[Act.put,s.size,hd,←cR h]
 ·rw[if_neg e]at h
  simp only[Act.put]
  rw[jH e]
  exact s.slot t u h
theorem St.sub{l':zav}(s:St N l a)(h:∀p∈l',get l p.1=some p.2):St N l' a:=by
 refine⟨s.size,s.defers,fun t v hv=>?_⟩
 have:∀l':zav,(∀p∈l',get l p.1=some p.2)→get l' t=some v→get l t=some v:=by
  intro l'
  induction l' with
  |nil=>intro _ h;simp[get]at h
  |cons p r ih=>
   intro hp hg
   obtain⟨k,u⟩:=p
   rw[zb4]at hg
   by_cases e:k=t
   ·subst e
    rw[if_pos rfl]at hg
    have:=hp (k,u) sQ
    rw[←hg];exact this
   ·rw[if_neg e]at hg
    exact ih (fun p hm=>hp p (by simp[hm])) hg
 exact s.slot t v (this l' h hv)
section
variable{P:Program}
def fw(r:Option Nat):Fence:={ Fence.wide with round:=r }
theorem zla(r:Option Nat):(fw r).depth.isSome=true→1≤0:=fun h=>by cases h
def WP(P:Program)(r:Option Nat)(c:Code)(Q:Exit→Act→World→Prop)(a:Act)(w:World):Prop:=c.wpIn (fw r) 0 P Q a w
theorem WP.wp{c:Code}{Q:Exit→Act→World→Prop}{a:Act}{w:World}(h:WP P none c Q a w):c.wp P Q a w:=wpIn_wide.1 h
variable{r:Option Nat}{c:Code}{Q:Exit→Act→World→Prop}{w:World}
theorem WP.mono{Q':Exit→Act→World→Prop}(hq:∀e a w,Q e a w→Q' e a w)(h:WP P r c Q a w):WP P r c Q' a w:=wpIn_mono h hq
def qad(op:Op):Bool:=match op with| .defer _=>false|_=>true
variable{op:Op}
theorem zm4(h:qad op=true):∀c,op≠ .defer c:=fun c e=>by subst e;cases h
variable{K:Act→World→Prop}
theorem qli{o:Oper}(hd:qad o.op=true)(h:o.wp P a w K Q)(r:Option Nat):o.wpIn (fw r) 0 P a w K Q:=by
 refine⟨fun _ _=>trivial,?_⟩
 rw[Oper.semAt_eq _ _ _ (zm4 hd)]
 unfold Oper.wp at h
 generalize (execOp a.eval o).run P w=res at h⊢
 cases res with
 |ok n w'=>
  cases n with
  |value v=>exact h
  |skip=>exact h
  |defer d=>exact h
  |enter f args=>
   have h1:CallsIn (fw r) 0 P f args w' _:=(callsIn_wide (n:=0)).2 h
   exact⟨zla r,h1.mono fun e w'' he=>by cases e<;>exact he⟩
  |row s args=>exact⟨zla r,fun c cs _=>let ⟨v,w',x,s⟩:=h c cs;⟨v,w',x,stepsIn_wide.2 s⟩⟩
  |_=>exact h.elim
 |halt x w'=>cases x<;>exact h
theorem zwl{ops:Array Oper}{Q:Exit→Act→World→Prop}(hd:∀o∈ops.toList,qad o.op=true)(hq:¬LetsOut Q)(r:Option Nat):∀(n:Nat) (listed:Array Bool) (a:Act) (w:World),wpAny P .any ops Q n listed a w→wpAnyIn (fw r) 0 P .any ops Q n listed a w
 |0,_,_,_,h=>h
 |n+1,listed,a,w,h=>⟨h.1,fun i hi=>by
  have h1:=wpOp_mono (fun a' w' h'=>zwl hd hq r n (listed.setIfInBounds i true) a' w' h') (h.2 i hi)
  unfold wpOp at h1
  unfold wpOpIn
  split
  ·rename_i e;rw[e]at h1;exact h1
  ·rename_i o e
   rw[e]at h1
   simp only[]at h1
   split
   ·rename_i hw
    rw[if_pos hw]at h1
    exact qli (hd o (by simpa using Array.mem_of_getElem? e)) (h1.resolve_right fun x=>hq x.2) r
   ·rename_i hw
    rw[if_neg hw]at h1
    exact⟨fun _ _=>trivial,h1⟩⟩
def HL(P:Program)(ops:Array Oper)(Q:Exit→Act→World→Prop)(N:Fm)(rest:List Oper)(l:zav)(H:World→Prop):Prop:=
 ∀a w,St N l a→H w→wpListIn (fw N.r) 0 P ops Q rest a w
def HT(P:Program)(c:Code)(Q:Exit→Act→World→Prop)(N:Fm)(l:zav)(H:World→Prop):Prop:=
 ∀a w,St N l a→H w→WP P N.r c Q a w
def HX(Q:Exit→Act→World→Prop)(e:Exit)(N:Fm)(l:zav)(H:World→Prop):Prop:=
 ∀a w,St N l a→H w→Q e a w
variable{l':zav}{H H':World→Prop}{ops:Array Oper}{rest:List Oper}{o:Oper}
variable{n:Nat}{ds:List Deferred}{y:Code}
theorem zr5{x:Code}(h:HT P x (Exit.then (WP P r y Q) Q) ⟨n,ds,r⟩ l H):HT P (.seq x y) Q ⟨n,ds,r⟩ l H:=fun a w s hw=>wpIn_seq (h a w s hw)
variable{id:Nat}
theorem zkr{r:List Oper}(h:HL P r.toArray Q N r l H):HT P (.region id r.toArray false) Q N l H:=fun a w s hw=>wpIn_region_lit (h a w s hw)
theorem zno(h:HT P c (Exit.inBlock id Q) N l H):HT P (.block id c) Q N l H:=fun a w s hw=>wpIn_block (h a w s hw)
theorem qep(h:HX Q .ret N l H):HT P .ret Q N l H:=fun a w s hw=>wpIn_ret (h a w s hw)
theorem zq4(h:HX Q .normal N l H):HT P .skip Q N l H:=fun a w s hw=>wpIn_skip (h a w s hw)
theorem ztm(h:HX Q (.exit id) N l H):HT P (.exit id) Q N l H:=fun a w s hw=>wpIn_exit (h a w s hw)
variable{c:Operand}
theorem zq2{x:Code}(b:Bool)(hk:zex l c=true)(hc:evO l c=some (.bool b))(ht:b=true→HT P x Q N l H)(hf:b=false→HT P y Q N l H):HT P (.cond c x y) Q N l H:=fun a w s hw=>
 wpIn_cond_split (by rw[s.eval hk,zar hc]) (fun h=>ht h a w s hw) (fun h=>hf h a w s hw)
variable{b:Bool}
theorem qrq{x:Code}(hk:zex l c=true)(hc:evO l c=some (.bool b))(hb:b=true)(ht:HT P x Q N l H):HT P (.cond c x y) Q N l H:=fun a w s hw=>
 wpIn_cond_true (by rw[s.eval hk,zar hc,hb]) (ht a w s hw)
theorem qo4{x:Code}(hk:zex l c=true)(hc:evO l c=some (.bool b))(hb:b=false)(hf:HT P y Q N l H):HT P (.cond c x y) Q N l H:=fun a w s hw=>
 wpIn_cond_false (by rw[s.eval hk,zar hc,hb]) (hf a w s hw)
variable{c:Code}{α:Type}
theorem zmn(I:α→Act→World→Prop)(μ:α→Nat)
  (round:∀x a w,I x a w→WP P r c (Exit.then (fun a' w'=>∃y,I y a' w'∧μ y<μ x) Q) a w) (x:α) (a:Act) (w:World) (h₀:I x a w):WP P r (Code.loop c) Q a w:=by
 refine wpIn_loop_ghost (fun n a w=>∃x,μ x=n∧I x a w) (μ x) ⟨x,rfl,h₀⟩ fun n a w ⟨x,hn,hx⟩=>?_
 refine wpIn_mono (round x a w hx) fun e a' w' q=>?_
 cases e with
 |normal=>obtain⟨y,hy,hlt⟩:=q;exact⟨μ y,hn▸hlt,y,rfl,hy⟩
 |_=>exact q
def qnc(N:Fm)(L:α→zav)(I:α→World→Prop)(μ:α→Nat)(x:α)(a:Act)(w:World):Prop:=∃y,(St N (L y) a∧I y w)∧μ y<μ x
theorem qrp(L:α→zav)(I:α→World→Prop)(μ:α→Nat)(x₀:α)(h₀:∀p∈L x₀,get l p.1=some p.2)(hI:∀w,H w→I x₀ w)
  (round:∀x,HT P c (Exit.then (qnc N L I μ x) Q) N (L x) (I x)):HT P (.loop c) Q N l H:=fun a w s hw=>
 zmn (fun x a w=>St N (L x) a∧I x w) μ (fun x a w ⟨sx,hx⟩=>round x a w sx hx) x₀ a w ⟨s.sub h₀,hI w hw⟩
variable{μ:α→Nat}
theorem qpv{L:α→zav}{I:α→World→Prop}{x:α}(y:α)(hl:∀p∈L y,get l p.1=some p.2)(hI:∀w,H w→I y w)(hm:μ y<μ x):HX (Exit.then (qnc N L I μ x) Q) .normal N l H:=
 fun _ w s hw=>⟨y,⟨s.sub hl,hI w hw⟩,hm⟩
theorem zka(h:HT P y Q ⟨n,ds,r⟩ l H):HX (Exit.then (WP P r y Q) Q) .normal ⟨n,ds,r⟩ l H:=h
theorem zfj(h:HX Q (.exit id) N l H):HX (Exit.then K Q) (.exit id) N l H:=h
theorem zg0(h:HX Q .ret N l H):HX (Exit.then K Q) .ret N l H:=h
theorem zfi(h:HX Q .ret N l H):HX (Exit.inBlock id Q) .ret N l H:=h
theorem zd0(h:HX Q .normal N l H):HX (Exit.inBlock id Q) .normal N l H:=h
theorem zeo(h:HX Q .normal N l H):HX (Exit.inBlock id Q) (.exit id) N l H:=fun a w s hw=>by
 simp only[Exit.inBlock,if_true];exact h a w s hw
theorem zfh{id':Nat}(hne:Nat.beq id' id=false)(h:HX Q (.exit id') N l H):HX (Exit.inBlock id Q) (.exit id') N l H:=fun a w s hw=>by
 have:id'≠id:=by intro e;subst e;simp at hne
 simp only[Exit.inBlock,if_neg this];exact h a w s hw
variable{e:Exit}
theorem qsa(l':zav)(H':World→Prop)(hl:∀p∈l',get l p.1=some p.2)(hH:∀w,H w→H' w)(h:HX Q e N l' H'):HX Q e N l H:=
 fun a w s hw=>h a w (s.sub hl) (hH w hw)
theorem zu3(h:HX Q .normal N l H):HL P ops Q N [] l H:=fun a w s hw=>wpListIn_nil (h a w s hw)
def zez:Op→Bool
 | .select _ _| .defer _=>false
 |_=>true
def zee(N:Fm)(l:zav)(op:Op)(d:Nat):Bool:=zez op&&(Nat.ble (d+1) N.n&&zec l op)
theorem zp3(h:zez op=true):qad op=true:=by cases op<;>first|rfl|cases h
theorem zm5(h:zez op=true):∀cs b,op≠ .select cs b:=fun cs b e=>by subst e;cases h
variable{d:Nat}
theorem zl6(h:zee N l op d=true):qad op=true:=by simp only[zee,bH]at h;exact zp3 h.1
theorem ze0(h:zee N l op d=true):(∀cs b,op≠ .select cs b)∧d<N.n∧zec l op=true:=by
 simp only[zee,bH]at h
 exact⟨zm5 h.1,bU h.2.1,h.2.2⟩
def OV(P:Program)(op:Op)(ty:TypeId)(l:zav)(H:World→Prop)(v:Value):Prop:=
 ∀d pos after w,H w→(execOp (ev l) ⟨d,op,ty,pos,after,none⟩).run P w= .ok (.value v) w
def HO(P:Program)(o:Oper)(Q:Exit→Act→World→Prop)(N:Fm)(l:zav)(H:World→Prop)(l':α→zav)(H':α→World→Prop):Prop:=
 ∀a w,St N l a→H w→∀K:Act→World→Prop,(∀x a' w',St N (l' x) a'→H' x w'→K a' w')→qad o.op=true∧o.wp P a w K Q
theorem zkf(ρ:Operand→Value)(d d':Option Tmp)(op:Op)(ty:TypeId)(pos pos':String)(after after':Array Edge)(g g':Option (Nat×Bool)):
  execOp ρ ⟨d,op,ty,pos,after,g⟩=execOp ρ ⟨d',op,ty,pos',after',g'⟩:=rfl
def evs(l:zav):List Operand→Option (List Value)
 | []=>some []
 |x::r=>match evO l x,evs l r with
  |some v,some vs=>some (v::vs)
  |_,_=>none
theorem zij{l:zav}:∀{xs:List Operand} {vs:List Value},evs l xs=some vs→xs.map (ev l)=vs
 | [],_,h=>by simp[evs]at h;simp[←h]
 |x::r,vs,h=>by
  simp only[evs]at h
  split at h
  ·rename_i v vs' h1 h2
   simp only[cO]at h
   rw[bG,zar h1,zij h2,h]
  ·cases h
def za7(P:Program)(f:FuncId):Bool:=match P.funcs[f]? with
 |some fn=> !(fn.name== "runtime.NumGoroutine")&& !fn.body.isNone
 |none=>false
variable{f:FuncId}
theorem zdz(h:za7 P f=true)(args:Array Value)(w:World):(callFunc f args).run P w= .ok (.enter f args) w:=by
 unfold za7 at h
 cases hf:P.funcs[f]? with
 |none=>simp[hf]at h
 |some fn=>
  simp only[hf,bH,eZ]at h
  have hp:(program).run P w= .ok P w:=rfl
  unfold callFunc
  simp only[Sem.run_bind,hp,Result.andThen_ok,hf,h.1,h.2]
  rfl
variable{xs:List Operand}{vs:List Value}{tys:Array TypeId}{d:Option Tmp}{ty:TypeId}{pos:String}{after:Array Edge}{g:Option (Nat×Bool)}
theorem qfz(hb:za7 P f=true)(hx:evs l xs=some vs)(w:World):
  (execOp (ev l) ⟨d,.call ⟨.value (.func f),xs.toArray,tys⟩,ty,pos,after,g⟩).run P w= .ok (.enter f vs.toArray) w:=by
 simp only[execOp,resolve,Deferred.ofValue,ev,fS,zij hx]
 simp[invoke,zdz hb]
variable{x:Operand}
theorem zzp{fs cs:List Value}{us:List Value}(hf:evO l x=some (.func (.func f) fs.toArray cs.toArray))(hb:za7 P f=true)(hx:evs l xs=some vs)(hu:fs++(vs++cs)=us)(w:World):
  (execOp (ev l) ⟨d,.call ⟨.value x,xs.toArray,tys⟩,ty,pos,after,g⟩).run P w= .ok (.enter f us.toArray) w:=by
 simp only[execOp,resolve,Deferred.ofValue,zar hf,fS,zij hx]
 simp[invoke,zdz hb,←hu]
section plainop
variable{d:Nat}
theorem zx2(hok:zee N l op d=true)(hv:OV P op ty l H v):HO P ⟨some d,op,ty,pos,after,g⟩ Q N l H (α:=Unit) (fun _=>(d,v)::l) (fun _=>H):=by
 obtain⟨hs,hN,hk⟩:=ze0 hok
 intro a w s hw K hK
 refine⟨zl6 hok,?_⟩
 unfold Oper.wp
 rw[s.exec _ hs hk,zkf _ _ none _ _ _ "" _ #[] _ none,hv none "" #[] w hw]
 exact hK () _ _ (s.put hN v) hw
variable{val:α→Value}
theorem zh6{H':α→World→Prop}(hok:zee N l op d=true)(hr:∀w,H w→∃x w',(execOp (ev l) ⟨some d,op,ty,pos,after,g⟩).run P w= .ok (.value (val x)) w'∧H' x w'):
  HO P ⟨some d,op,ty,pos,after,g⟩ Q N l H (fun x=>(d,val x)::l) H':=by
 obtain⟨hs,hN,hk⟩:=ze0 hok
 intro a w s hw K hK
 refine⟨zl6 hok,?_⟩
 obtain⟨x,w',hr,hw'⟩:=hr w hw
 unfold Oper.wp
 rw[s.exec _ hs hk,hr]
 exact hK x _ _ (s.put hN (val x)) hw'
theorem zs1{H':α→World→Prop}(hok:(zez op&&zec l op)=true)(hr:∀w,H w→∃x w',(execOp (ev l) ⟨none,op,ty,pos,after,g⟩).run P w= .ok .skip w'∧H' x w'):
  HO P ⟨none,op,ty,pos,after,g⟩ Q N l H (fun _=>l) H':=by
 simp only[bH]at hok
 intro a w s hw K hK
 refine⟨zp3 hok.1,?_⟩
 obtain⟨x,w',hr,hw'⟩:=hr w hw
 unfold Oper.wp
 rw[s.exec _ (zm5 hok.1) hok.2,hr]
 exact hK x _ _ s hw'
theorem zsz{args:Array Value}{H':α→World→Prop}(hok:zee N l op d=true)(hr:∀w,(execOp (ev l) ⟨some d,op,ty,pos,after,g⟩).run P w= .ok (.enter f args) w)
  (hc:∀w,H w→Calls P f args w fun e w'=>∃x,e= .returned (val x)∧H' x w'):
  HO P ⟨some d,op,ty,pos,after,g⟩ Q N l H (fun x=>(d,val x)::l) H':=by
 obtain⟨hs,hN,hk⟩:=ze0 hok
 intro a w s hw K hK
 refine⟨zl6 hok,?_⟩
 unfold Oper.wp
 rw[s.exec _ hs hk,hr,Oper.upon_enter]
 refine(hc w hw).mono fun e w' ⟨x,he,hx⟩=>?_
 subst he
 exact hK x _ _ (s.put hN (val x)) hx
end plainop
section moves
theorem zi4(hx:evO l x=some v):OV P (.move x) ty l H v:=fun _ _ _ w _=>by simp only[execOp,zar hx];rfl
theorem zgm(hx:evO l x=some v):OV P (.assign x) ty l H v:=fun _ _ _ w _=>by simp only[execOp,zar hx];rfl
end moves
theorem za1{l':α→zav}{H':α→World→Prop}(hg:o.guard=none)(h:HO P o Q N l H l' H')(k:∀x,HL P ops Q N rest (l' x) (H' x)):HL P ops Q N (o::rest) l H:=
 fun a w s hw=>wpListIn_plain hg fun K hK=>(fun x=>qli x.1 x.2 N.r) (h a w s hw K fun x a' w' s' hw'=>hK a' w' (k x a' w' s' hw'))
def zm7(ops:Array Oper)(l:zav)(o:Oper)(b:Bool):Bool:=
 match o.guard with
 |some (j,want)=>(match (ops[j]?).bind (·.dst)with|some t=>(match get l t with|some (.bool c)=>(c==want)==b|_=>false) |none=>false)
 |none=>false
theorem zj0(s:St N l a)(h:zm7 ops l o b=true):Region.wanted o (yielded ops a.tmps)=b:=by
 unfold zm7 at h
 unfold Region.wanted
 split at h
 ·rename_i j want hg
  simp only[hg]
  split at h
  ·rename_i t ht
   split at h
   ·rename_i c hc
    have:=s.slot t _ hc
    simp only[yielded,ht,gZ,this]
    simp only[beq_iff_eq]at h
    rw[←h]
    cases c<;>cases want<;>rfl
   ·cases h
  ·cases h
 ·cases h
variable{d:Nat}{g:Nat×Bool}
theorem qq4(hN:Nat.ble (d+1) N.n=true)(hg:zm7 ops l ⟨some d,op,ty,pos,after,some g⟩ false=true)(k:HL P ops Q N rest ((d,undef)::l) H):HL P ops Q N (⟨some d,op,ty,pos,after,some g⟩::rest) l H:=by
 intro a w s hw
 unfold wpListIn
 rw[if_neg (by rw[zj0 s hg];simp)]
 exact⟨fun _ _=>trivial,k _ _ (s.put (bU hN) undef) hw⟩
def qrd(ops:Array Oper)(l:zav)(g:Nat×Bool):Bool:=match (ops[g.1]?).bind (·.dst)with|some t=>(match get l t with|some (.tuple _)=>true|_=>false) |none=>false
variable{dst:Option Tmp}
theorem zx3(s:St N l a)(h:qrd ops l g=true):Region.wanted ⟨dst,op,ty,pos,after,some g⟩ (yielded ops a.tmps)=false:=by
 unfold qrd at h
 split at h
 ·rename_i t ht
  split at h
  ·rename_i vs hv
   have:=s.slot t _ hv
   simp only[Region.wanted,yielded,ht,gZ,this]
   rfl
  ·cases h
 ·cases h
theorem qoe(hN:Nat.ble (d+1) N.n=true)(hg:qrd ops l g=true)(k:HL P ops Q N rest ((d,undef)::l) H):HL P ops Q N (⟨some d,op,ty,pos,after,some g⟩::rest) l H:=by
 intro a w s hw
 unfold wpListIn
 rw[if_neg (by rw[zx3 s hg];simp)]
 exact⟨fun _ _=>trivial,k _ _ (s.put (bU hN) undef) hw⟩
theorem qof(d:Nat)(b:Bool)(h:get l d=some (.bool b))(ht:b=true→HL P ops Q N rest ((d,.bool true)::l) H)(hf:b=false→HL P ops Q N rest ((d,.bool false)::l) H):HL P ops Q N rest l H:=by
 intro a w s hw
 have hs:∀c,b=c→St N ((d,.bool c)::l) a:=fun c hc=>⟨s.size,s.defers,fun t v hv=>by
  rw[zb4]at hv
  by_cases e:d=t
  ·subst e;rw[if_pos rfl]at hv;rw[←cR hv,←hc];exact s.slot _ _ h
  ·rw[if_neg e]at hv;exact s.slot t v hv⟩
 cases hb:b
 ·exact hf hb a w (hs _ hb) hw
 ·exact ht hb a w (hs _ hb) hw
theorem zd2(d:Nat)(v v':Value)(h:get l d=some v)(e:v=v')(k:HL P ops Q N rest ((d,v')::l) H):HL P ops Q N rest l H:=by
 intro a w s hw
 refine k a w ⟨s.size,s.defers,fun t u hu=>?_⟩ hw
 rw[zb4]at hu
 by_cases e':d=t
 ·subst e';rw[if_pos rfl]at hu;rw[←cR hu,←e];exact s.slot _ _ h
 ·rw[if_neg e']at hu;exact s.slot t u hu
def zhu(P:Program)(l:zav)(H:World→Prop)(r:ResultVar)(v:Value):Prop:=
 match r with
 | .tmp t=>get l t=some v
 | .cell t ty=>∃a,get l t=some (.pointer (some a))∧∀w,H w→(loadVar ty a).run P w= .ok v w
variable{r:ResultVar}
theorem zia(h:zhu P l H r v)(s:St N l a)(hw:H w):
  (match r with| .tmp t=>a.tmps[t]? =some v| .cell p ty=>∃x,a.tmps[p]? =some (.pointer (some x))∧(loadVar ty x).run P w= .ok v w:Prop):=by
 cases r with
 |tmp t=>exact s.slot _ _ h
 |cell t ty=>obtain⟨p,h1,h2⟩:=h;exact⟨p,s.slot _ _ h1,h2 w hw⟩
variable{fn:Func}{R:Ending→World→Prop}
theorem qm8(hf:fn.results= #[r])(h1:zhu P l H r v)(h:∀w,H w→R (.returned v) w):HX (bodyPost P fn R) .ret ⟨n,[],none⟩ l H:=fun a w s hw=>by
 have e1:=zia h1 s hw
 refine bodyPost_ret (v:=v) ?_ s.defers (h w hw)
 cases r with
 |tmp t=>simp only[]at e1;simp[results,hf,e1]
 |cell t ty=>obtain⟨x,ex,e1⟩:=e1;simp[results,hf,ex,asAddr,e1]
variable{u:Value}
theorem qm9{q:ResultVar}(hf:fn.results= #[r,q])(h1:zhu P l H r v)(h2:zhu P l H q u)(h:∀w,H w→R (.returned (.tuple #[v,u])) w):HX (bodyPost P fn R) .ret ⟨n,[],none⟩ l H:=fun a w s hw=>by
 have e1:=zia h1 s hw
 have e2:=zia h2 s hw
 refine bodyPost_ret (v:=.tuple #[v,u]) ?_ s.defers (h w hw)
 cases r with
 |tmp t=>
  simp only[]at e1
  cases q with
  |tmp t'=>simp only[]at e2;simp[results,hf,e1,e2]
  |cell t' ty'=>obtain⟨y,ey,e2⟩:=e2;simp[results,hf,e1,ey,asAddr,e2]
 |cell t ty=>
  obtain⟨x,ex,e1⟩:=e1
  cases q with
  |tmp t'=>simp only[]at e2;simp[results,hf,ex,asAddr,e1,e2]
  |cell t' ty'=>obtain⟨y,ey,e2⟩:=e2;simp[results,hf,ex,asAddr,e1,ey,e2]
theorem qna(hf:fn.results= #[])(h:∀w,H w→R (.returned (.tuple #[])) w):HX (bodyPost P fn R) .ret ⟨n,[],none⟩ l H:=fun _ w s hw=>
 bodyPost_ret (results_none hf _ _ _) s.defers (h w hw)
theorem qc4(hf:fn.results= #[])(h:∀w,H w→R (.returned (.tuple #[])) w):HX (bodyPost P fn R) .normal ⟨n,[],none⟩ l H:=fun _ w s hw=>
 bodyPost_end (results_none hf _ _ _) s.defers (h w hw)
def zaa:Nat→List Value→zav
 |_,[]=>[]
 |k,v::r=>(k,v)::zaa (k+1) r
theorem znx(vs:List Value):∀k t v,get (zaa k vs) t=some v→k≤t∧vs[t - k]? =some v:=by
 induction vs with
 |nil=>intro k t v h;simp[zaa,get]at h
 |cons x r ih=>
  intro k t v h
  rw[zaa,zb4]at h
  by_cases e:k=t
  ·subst e;rw[if_pos rfl]at h;simp[←h]
  ·rw[if_neg e]at h
   obtain⟨h1,h2⟩:=ih _ _ _ h
   refine⟨oQ,?_⟩
   rw[show t - k=(t - (k+1))+1 by omega]
   simpa using h2
theorem zol{w₀:World}(hf:P.funcs[f]? =some fn)(hb:fn.body=some c)(hn:Nat.ble vs.length fn.ntmps=true)(H:World→Prop)(hH:H w₀)
  (h:HT P c (bodyPost P fn R) ⟨fn.ntmps,[],none⟩ (zaa 0 vs) H):Calls P f vs.toArray w₀ R:=by
 refine calls_of_wp hf hb (WP.wp (h _ _ ⟨by simp at hn⊢;omega,rfl,fun t v hv=>?_⟩ hH))
 obtain⟨-,h2⟩:=znx vs 0 t v hv
 simp only[Nat.sub_zero]at h2
 have hlt:t<vs.length:=(aC.1 h2).1
 rw[kC (by simpa using hlt)]
 simpa using h2
structure Fr (F:Nat→Prop) (w w':World):Prop where
 os:w'.os=w.os
 tape:w'.tape=w.tape
 output:w'.output=w.output
 size:w.heap.size≤w'.heap.size
 block:∀k,k<w.heap.size→¬F k→w'.heap[k]? =w.heap[k]?
abbrev none':Nat→Prop:=fun _=>False
theorem Fr.refl(F:Nat→Prop)(w:World):Fr F w w:=⟨rfl,rfl,rfl,bA _,fun _ _ _=>rfl⟩
structure Item where
 foot:Nat→Prop
 prop:World→Prop
def Item.Stable(ro:Nat→Prop)(it:Item):Prop:=∀w w':World,(∀k,ro k∨it.foot k→w'.heap[k]? =w.heap[k]?)→it.prop w→it.prop w'
abbrev qsd(w0:World)(F:Nat→Prop):Nat→Prop:=fun k=>k<w0.heap.size∧¬F k
def Item.In(w0:World)(F:Nat→Prop)(it:Item)(w:World):Prop:=
 it.prop w∧it.Stable (qsd w0 F)∧∀k,it.foot k→k<w.heap.size∧(k<w0.heap.size→F k)
def Item.Apart(x y:Item):Prop:=∀k,x.foot k→y.foot k→False
structure Hp (w0:World) (F:Nat→Prop) (m:List Item) (w:World):Prop where
 fr:Fr F w0 w
 item:∀it∈m,it.In w0 F w
 apart:m.Pairwise Item.Apart
def pt(b:Nat)(o:Obj):Item:=⟨fun k=>k=b,fun w=>w.heap[b]? =some o⟩
theorem zab(ro:Nat→Prop)(b:Nat)(o:Obj):(pt b o).Stable ro:=fun _ _ h hp=>(h b (.inr rfl)).trans hp
structure Its (Fc:Nat→Prop) (w:World) (L:List Item) (w':World):Prop where
 fr:Fr Fc w w'
 item:∀it∈L,it.prop w'∧it.Stable none'∧∀k,it.foot k→k<w'.heap.size∧(k<w.heap.size→Fc k)
 apart:L.Pairwise Item.Apart
section mem
variable{w0:World}{F:Nat→Prop}{m m':List Item}{w':World}
theorem Hp.start(w:World)(F:Nat→Prop):Hp w F [] w:=⟨.refl _ _,fun _ h=>(nomatch h),.nil⟩
variable{b:Nat}
theorem Hp.get(h:Hp w0 F m w){o:Obj}(hm:pt b o∈m):w.heap[b]? =some o:=(h.item _ hm).1
theorem Hp.perm(h:Hp w0 F m w)(hp:m.Perm m'):Hp w0 F m' w:=
 ⟨h.fr,fun it hm=>h.item it (hp.mem_iff.2 hm),(List.Perm.pairwise_iff (fun {_ _} h k a b=>h k b a) hp).1 h.apart⟩
theorem Hp.sub(h:Hp w0 F m w)(hs:m'.Sublist m):Hp w0 F m' w:=⟨h.fr,fun it hm=>h.item it (hs.subset hm),h.apart.sublist hs⟩
theorem Item.In.moved{it:Item}(h:it.In w0 F w)(hf:∀k,it.foot k→w'.heap[k]? =w.heap[k]?)(h0:∀k,qsd w0 F k→w'.heap[k]? =w.heap[k]?)(hs:w.heap.size≤w'.heap.size):it.In w0 F w':=
 ⟨h.2.1 w w' (fun k hk=>hk.elim (h0 k) (hf k)) h.1,h.2.1,fun k hk=>⟨aY (h.2.2 k hk).1 hs,(h.2.2 k hk).2⟩⟩
theorem Hp.drew(h:Hp w0 F m w):Hp w0 F m w.drew:=
 ⟨⟨h.fr.os,h.fr.tape,h.fr.output,h.fr.size,h.fr.block⟩,fun it hm=>(h.item it hm).moved (fun _ _=>rfl) (fun _ _=>rfl) (bA _),h.apart⟩
variable{L:List Item}
theorem Hp.call{m2:List Item}{Fc:Nat→Prop}(h:Hp w0 F (m++m2) w)(c:Its Fc w L w')(hF:∀k,k<w.heap.size→Fc k→∃it∈m,it.foot k):Hp w0 F (L++m2) w':=by
 have hroF:∀k,qsd w0 F k→k<w.heap.size∧¬Fc k:=fun k hk=>by
  have hlt:=aY hk.1 h.fr.size
  refine⟨hlt,fun hc=>?_⟩
  obtain⟨it,hm,hf⟩:=hF k hlt hc
  exact hk.2 (((h.item it (aP _ hm)).2.2 k hf).2 hk.1)
 refine⟨⟨c.fr.os.trans h.fr.os,c.fr.tape.trans h.fr.tape,c.fr.output.trans h.fr.output,cH h.fr.size c.fr.size,fun k hk hn=>?_⟩,fun it hm=>?_,?_⟩
 ·obtain⟨h1,h2⟩:=hroF k ⟨hk,hn⟩
  rw[c.fr.block k h1 h2,h.fr.block k hk hn]
 ·rcases aR.1 hm with hm|hm
  ·obtain⟨h1,h2,h3⟩:=c.item it hm
   refine⟨h1,fun a b hab hp=>h2 a b (fun k hk=>hab k (hk.elim (fun f=>f.elim) .inr)) hp,fun k hk=>⟨(h3 k hk).1,fun hk0=>?_⟩⟩
   have hlt:=aY hk0 h.fr.size
   obtain⟨it',hm',hf'⟩:=hF k hlt ((h3 k hk).2 hlt)
   exact((h.item it' (aP _ hm')).2.2 k hf').2 hk0
  ·have hin:=h.item it (aU _ hm)
   refine hin.moved (fun k hk=>?_) (fun k hk=>?_) c.fr.size
   ·refine c.fr.block k (hin.2.2 k hk).1 (fun hc=>?_)
    obtain⟨it',hm',hf'⟩:=hF k (hin.2.2 k hk).1 hc
    exact(bN.1 h.apart).2.2 it' hm' it hm k hf' hk
   ·obtain⟨h1,h2⟩:=hroF k hk
    exact c.fr.block k h1 h2
 ·refine bN.2 ⟨c.apart,(bN.1 h.apart).2.1,fun x hx y hy k hkx hky=>?_⟩
  have hin:=h.item y (aU _ hy)
  have hlt:=(hin.2.2 k hky).1
  obtain⟨it',hm',hf'⟩:=hF k hlt (((c.item x hx).2.2 k hkx).2 hlt)
  exact(bN.1 h.apart).2.2 it' hm' y hy k hf' hky
theorem Hp.call0(h:Hp w0 F m w)(c:Its none' w L w'):Hp w0 F (L++m) w':=Hp.call (m:=[]) h c (fun _ _ h=>h.elim)
theorem Hp.keep(h:Hp w0 F m w)(c:Fr none' w w'):Hp w0 F m w':=Hp.call0 (L:=[]) h ⟨c,fun _ h=>(nomatch h),.nil⟩
theorem Hp.its(h:Hp w0 F m w)(hs:L.Sublist m)(hst:∀it∈L,it.Stable none'):Its F w0 L w:=
 ⟨h.fr,fun it hm=>⟨(h.item it (hs.subset hm)).1,hst it hm,(h.item it (hs.subset hm)).2.2⟩,h.apart.sublist hs⟩
theorem Hp.alloc(h:Hp w0 F m w)(o:Obj):Hp w0 F (pt w.heap.size o::m) (w.alloc o):=by
 refine Hp.call0 (L:=[pt w.heap.size o]) h ⟨⟨rfl,rfl,rfl,by simp,fun k hk _=>Below.heap_alloc w o k hk⟩,fun it hm=>?_,.cons (fun _ h=>by cases h) .nil⟩
 obtain rfl:it=pt w.heap.size o:=by simpa using hm
 exact⟨heap_alloc_new w o,zab _ _ _,fun k hk=>by cases hk;simp⟩
theorem Hp.turn{o:Obj}(h:Hp w0 F (pt b o::m) w)(o':Obj)(hb:w'.heap[b]? =some o')(hr:∀k,k≠b→w'.heap[k]? =w.heap[k]?)(hs:w'.heap.size=w.heap.size)(h1:w'.os=w.os)(h2:w'.tape=w.tape)(h3:w'.output=w.output):Hp w0 F (pt b o'::m) w':=by
 refine Hp.call (L:=[pt b o']) (m:=[pt b o]) (Fc:=fun k=>k=b) h ⟨⟨h1,h2,h3,jF hs.symm,fun k _ hn=>hr k hn⟩,fun it hm=>?_,.cons (fun _ h=>by cases h) .nil⟩ (fun k _ hk=>⟨pt b o,by simp,hk⟩)
 obtain rfl:it=pt b o':=by simpa using hm
 refine⟨hb,zab _ _ _,fun k hk=>?_⟩
 cases hk
 refine⟨?_,fun _=>rfl⟩
 rw[hs]
 exact((h.item (pt b o) sQ).2.2 b rfl).1
theorem Hp.setCell{b i:Nat}{cs:Array Value}{E:TypeId}(h:Hp w0 F (pt b (.cells cs E (0,0))::m) w)(v:Value):Hp w0 F (pt b (.cells (cs.setIfInBounds i v) E (0,0))::m) (w.setCell ⟨b,i,none⟩ v):=
 h.turn _ (heap_setCell_same w b i cs E v (h.get sQ)) (fun k hk=>heap_setCell_other w _ k v hk) (by simp[World.setCell]) rfl rfl rfl
theorem Hp.old(h:Hp w0 F m w){a:Addr}(hF:¬F a.block)(hv:w0.cell? a=some v):w.cell? a=some v:=by
 have hlt:=World.block_lt_of_cell? w0 a hv
 rw[←hv]
 exact World.cell?_of_block (w:=w0) (h.fr.block a.block hlt hF)
end mem
section memops
variable{w0:World}{F:Nat→Prop}{m m':List Item}
def zja(P:Program)(T:TypeId):Bool:=match P.underlying T with|some (.struct _) |some (.array _ _) |none=>false|_=>true
variable{T:TypeId}{a:Addr}
theorem zyh(hT:zja P T=true)(hv:w.cell? a=some v):(Instr.loadAt T (.pointer (some a))).run P w= .ok v w:=by
 have hagg:(isAgg T).run P w= .ok false w:=by
  unfold zja at hT
  cases hu:P.underlying T with
  |none=>simp[hu]at hT
  |some d=>
   unfold isAgg
   rw[Sem.run_bind,run_underlying hu w]
   cases d<;>simp_all
 simp[Instr.loadAt,Instr.sureAddr,loadVar,Sem.run_bind,hagg,load,Sem.run,hv]
variable{b i:Nat}{cs:Array Value}{E:TypeId}{fz:Nat×Nat}
theorem zd4(h:w.heap[b]? =some (.cells cs E fz))(hv:cs[i]? =some v):w.cell? ⟨b,i,none⟩=some v:=by
 rw[cell_of_row w b i cs E fz h,hv]
section plainops
variable{g:Option (Nat×Bool)}
theorem za0(hx:evO l x=some (.pointer (some a)))(hT:zja P T=true)(hv:∀w,H w→w.cell? a=some v):OV P (.load T x) ty l H v:=
 fun _ _ _ w hw=>by simp only[execOp,zar hx,Sem.run_bind,zyh hT (hv w hw)];rfl
theorem zc5(hx:evO l x=some (.pointer (some ⟨b,i,none⟩)))(hT:zja P T=true)
  (hm:pt b (.cells cs E fz)∈m) (hv:cs[i]? =some v):OV P (.load T x) ty l (Hp w0 F m) v:=
 za0 hx hT (fun _ hw=>zd4 (hw.get hm) hv)
theorem zgo(hx:evO l x=some (.pointer (some ⟨b,0,none⟩)))(hT:zja P T=true)
  (hm:pt b (.cells #[v] E fz)∈m):OV P (.load T x) ty l (Hp w0 F m) v:=zc5 hx hT hm rfl
def zye(P:Program)(T:TypeId):Option Nat:=match P.underlying T with|some (.struct _) |some (.array _ _)=>(P.info? T).map (·.size) |_=>none
theorem zqr(hT:zye P T=some n)(h:w.heap[b]? =some (.cells cs E fz))(hi:i+n≤cs.size):
  (loadVar T ⟨b,i,none⟩).run P w= .ok (.agg (cs.extract i (i+n))) w:=by
 unfold zye at hT
 have hr:=World.rangeAt_of_block h i n
 have hlen:(cs.extract i (i+n)).toList.length=n:=by simp;omega
 split at hT
 ·rename_i hu;have:=run_loadVar_mid (P:=P) w b i T _ _ hr hu rfl (by rw[hT,hlen]);rwa[gM]at this
 ·rename_i hu;have:=run_loadVar_mid (P:=P) w b i T _ _ hr hu rfl (by rw[hT,hlen]);rwa[gM]at this
 ·cases hT
theorem qiv(hx:evO l x=some (.pointer (some ⟨b,i,none⟩)))(hT:zye P T=some n)
  (hm:pt b (.cells cs E fz)∈m) (hi:i+n≤cs.size):OV P (.load T x) ty l (Hp w0 F m) (.agg (cs.extract i (i+n))):=
 fun _ _ _ w hw=>by simp only[execOp,zar hx,Instr.loadAt,Instr.sureAddr,Sem.run_bind,Sem.run_pure,Result.andThen_ok,zqr hT (hw.get hm) hi]
theorem zcw(hx:evO l x=some (.pointer (some ⟨b,0,none⟩)))(hT:zye P T=some cs.size)
  (hm:pt b (.cells cs E fz)∈m):OV P (.load T x) ty l (Hp w0 F m) (.agg cs):=by
 have:=qiv (ty:=ty) (w0:=w0) (F:=F) hx hT hm (jF (aH _))
 simpa only[aH,Array.extract_size]using this
theorem zaq(hT:zye P T=some cs.size)(hm:pt b (.cells cs E fz)∈m):∀w,Hp w0 F m w→(loadVar T ⟨b,0,none⟩).run P w= .ok (.agg cs) w:=fun w hw=>by
 have:=zqr hT (hw.get hm) (i:=0) (jF (aH _))
 simpa only[aH,Array.extract_size]using this
variable{z:Value}
theorem zlg(hok:zee N l (.alloc T) d=true)(hz:(P.info? T).bind (·.zero)=some z):
  HO P ⟨some d,.alloc T,ty,pos,after,g⟩ Q N l (Hp w0 F m) (α:={ b:Nat//w0.heap.size≤b }) (fun b=>(d,.pointer (some ⟨b.1,0,none⟩))::l) (fun b=>Hp w0 F (pt b.1 (.cells z.cells T (0,0))::m)):=
 zh6 (val:=fun b:{ b:Nat//w0.heap.size≤b }=>.pointer (some ⟨b.1,0,none⟩)) hok (fun w hw=>by
  refine⟨⟨w.heap.size,hw.fr.size⟩,w.alloc (.cells z.cells T),?_,hw.alloc _⟩
  cases hq:P.info? T with
  |none=>simp[hq]at hz
  |some i=>
   have hz':i.zero=some z:=by simpa[hq]using hz
   simp[execOp,Instr.alloc,zeroValue,typeInfo,hq,hz',newVar,newRow])
theorem zam{zs:Array Value}(hok:zee N l (.alloc T) d=true)(hz:(P.info? T).bind (·.zero)=some (.agg zs))
  (k:∀b,w0.heap.size≤b→HL P ops Q N rest ((d,.pointer (some ⟨b,0,none⟩))::l) (Hp w0 F (pt b (.cells zs T (0,0))::m))):HL P ops Q N (⟨some d,.alloc T,ty,pos,after,none⟩::rest) l (Hp w0 F m):=
 za1 rfl (zlg hok hz) fun b=>k b.1 b.2
theorem zdg(hok:zee N l (.alloc T) d=true)(hz:(P.info? T).bind (·.zero)=some z)(h1:z.cells= #[z])
  (k:∀b,w0.heap.size≤b→HL P ops Q N rest ((d,.pointer (some ⟨b,0,none⟩))::l) (Hp w0 F (pt b (.cells #[z] T (0,0))::m))):HL P ops Q N (⟨some d,.alloc T,ty,pos,after,none⟩::rest) l (Hp w0 F m):=
 za1 rfl (zlg hok hz) fun b=>by rw[h1];exact k b.1 b.2
theorem qkx(hok:zee N l (.box T x) d=true)(hx:evO l x=some v):
  HO P ⟨some d,.box T x,ty,pos,after,g⟩ Q N l (Hp w0 F m) (α:={ b:Nat//w0.heap.size≤b }) (fun b=>(d,.pointer (some ⟨b.1,0,none⟩))::l) (fun b=>Hp w0 F (pt b.1 (.cells v.cells T (0,0))::m)):=
 zh6 (val:=fun b:{ b:Nat//w0.heap.size≤b }=>.pointer (some ⟨b.1,0,none⟩)) hok (fun w hw=>by
  refine⟨⟨w.heap.size,hw.fr.size⟩,w.alloc (.cells v.cells T),?_,hw.alloc _⟩
  simp[execOp,Instr.box,zar hx,newVar,newRow])
theorem zbp{c:Array Value}(hok:zee N l (.box T x) d=true)(hx:evO l x=some (.agg c))
  (k:∀b,w0.heap.size≤b→HL P ops Q N rest ((d,.pointer (some ⟨b,0,none⟩))::l) (Hp w0 F (pt b (.cells c T (0,0))::m))):HL P ops Q N (⟨some d,.box T x,ty,pos,after,none⟩::rest) l (Hp w0 F m):=
 za1 rfl (qkx hok hx) fun b=>k b.1 b.2
theorem zc9(hok:zee N l (.box T x) d=true)(hx:evO l x=some v)(h1:v.cells= #[v])
  (k:∀b,w0.heap.size≤b→HL P ops Q N rest ((d,.pointer (some ⟨b,0,none⟩))::l) (Hp w0 F (pt b (.cells #[v] T (0,0))::m))):HL P ops Q N (⟨some d,.box T x,ty,pos,after,none⟩::rest) l (Hp w0 F m):=
 za1 rfl (qkx hok hx) fun b=>by rw[h1];exact k b.1 b.2
theorem zai{y:Operand}(hok:(zez (.store T x y)&&zec l (.store T x y))=true)
  (hx:evO l x=some (.pointer (some ⟨b,i,none⟩))) (hy:evO l y=some v) (hT:(P.info? T).map (·.size)=some 1) (h1:v.cells= #[v]) (h2:v.oneCell'=true) (hi:i<cs.size):
  HO P ⟨none,.store T x y,ty,pos,after,g⟩ Q N l (Hp w0 F (pt b (.cells cs E (0,0))::m)) (α:=Unit) (fun _=>l) (fun _=>Hp w0 F (pt b (.cells (cs.setIfInBounds i v) E (0,0))::m)):=
 zs1 hok (fun w hw=>by
  refine⟨(),w.setCell ⟨b,i,none⟩ v,?_,hw.setCell v⟩
  have hb:=hw.get (b:=b) (o:=.cells cs E (0,0)) sQ
  have hc:w.cell? ⟨b,i,none⟩=some cs[i]:=by rw[cell_of_row w b i cs E _ hb];simp[hi]
  have hf:w.frozen? ⟨b,i,none⟩=false:=frozen_of_row w b i cs E hb
  cases hq:P.info? T with
  |none=>simp[hq]at hT
  |some q=>
   have hs:q.size=1:=by simpa[hq]using hT
   cases v<;>simp[execOp,zar hx,zar hy,Instr.storeAt,Instr.sureAddr,storeVar,sizeOf,typeInfo,hq,hs,h1,storeCells,store,Addr.add,Sem.run,hc,hf]at h2⊢<;>cases h2)
theorem zyl{cs':Array Value}(hb:w.heap[b]? =some (.cells cs E (0,0)))(hs:cs'.size=cs.size):(w.setCells b 0 cs'.toList).heap[b]? =some (.cells cs' E (0,0)):=by
 have key:∀(vs:List Value) (o:Nat) (w:World) (cs:Array Value),w.heap[b]? =some (.cells cs E (0,0))→o+vs.length≤cs.size→∃ds:Array Value,(w.setCells b o vs).heap[b]? =some (.cells ds E (0,0))∧ds.size=cs.size∧(∀k,k<o→ds[k]? =cs[k]?)∧∀k,k<vs.length→ds[o+k]? =vs[k]? :=by
  intro vs
  induction vs with
  |nil=>intro o w cs h _;exact⟨cs,h,rfl,fun _ _=>rfl,fun k hk=>by simp at hk⟩
  |cons v r ih=>
   intro o w cs h hl
   simp only[aW]at hl
   have h1:=heap_setCell_same w b o cs E v h
   obtain⟨ds,e1,e2,e3,e4⟩:=ih (o+1) (w.setCell ⟨b,o,none⟩ v) _ h1 (by simp;omega)
   refine⟨ds,e1,by simpa using e2,fun k hk=>?_,fun k hk=>?_⟩
   ·rw[e3 k oQ];rw[jH oQ]
   ·cases k with
    |zero=>
     rw[fU,e3 o oQ]
     have:o<cs.size:=oQ
     simp[this]
    |succ k=>
     have:=e4 k (by simpa using hk)
     rw[show o+(k+1)=o+1+k by omega,this]
     simp
 obtain⟨ds,e1,e2, -,e4⟩:=key cs'.toList 0 w cs hb (by simp[hs])
 rw[e1]
 have:ds=cs':=by
  refine iA fun k=>?_
  by_cases hk:k<cs'.size
  ·have:=e4 k (by simpa using hk)
   simpa using this
  ·rw[dR oQ,dR oQ]
 rw[this]
theorem zkz{b:Nat}:∀(vs:List Value) (o:Nat) (w:World) (k:Nat),k≠b→(w.setCells b o vs).heap[k]? =w.heap[k]?
 | [],_,_,_,_=>rfl
 |v::r,o,w,k,h=>by rw[World.setCells,zkz r (o+1) _ k h,heap_setCell_other w _ k v h]
theorem zmg{b:Nat}:∀(vs:List Value) (o:Nat) (w:World),(w.setCells b o vs).heap.size=w.heap.size∧(w.setCells b o vs).os=w.os∧(w.setCells b o vs).tape=w.tape∧(w.setCells b o vs).output=w.output
 | [],_,_=>⟨rfl,rfl,rfl,rfl⟩
 |v::r,o,w=>by
  obtain⟨h1,h2,h3,h4⟩:=zmg r (o+1) (w.setCell ⟨b,o,none⟩ v)
  rw[World.setCells]
  exact⟨h1.trans (by simp[World.setCell]),h2,h3,h4⟩
def zb7:List Value→Bool
 | []=>true
 |v::r=>v.oneCell'&&zb7 r
theorem zba:∀{l:List Value},zb7 l=true↔∀v∈l,v.oneCell'=true
 | []=>by simp[zb7]
 |v::r=>by simp[zb7,zba (l:=r)]
theorem qak(h:zb7 cs.toList=true):cs.all (·.oneCell')=true:=
 Array.all_eq_true_iff_forall_mem.2 fun v hv=>zba.1 h v (by simpa using hv)
theorem zaf{y:Operand}{cs':Array Value}(hok:(zez (.store T x y)&&zec l (.store T x y))=true)
  (hx:evO l x=some (.pointer (some ⟨b,0,none⟩))) (hy:evO l y=some (.agg cs')) (hT:(P.info? T).map (·.size)=some cs'.size) (h1':zb7 cs'.toList=true) (hs:cs'.size=cs.size):
  HO P ⟨none,.store T x y,ty,pos,after,g⟩ Q N l (Hp w0 F (pt b (.cells cs E (0,0))::m)) (α:=Unit) (fun _=>l) (fun _=>Hp w0 F (pt b (.cells cs' E (0,0))::m)):=
 zs1 hok (fun w hw=>by
  have h1:=qak h1'
  have hb:=hw.get (b:=b) (o:=.cells cs E (0,0)) sQ
  obtain⟨r1,r2,r3,r4⟩:=zmg (b:=b) cs'.toList 0 w
  refine⟨(),w.setCells b 0 cs'.toList,?_,hw.turn _ (zyl hb hs) (fun k hk=>zkz _ _ _ k hk) r1 r2 r3 r4⟩
  have ht:w.there b 0 cs'.size:=fun j hj=>by
   refine⟨?_,frozen_of_row w b _ cs E hb⟩
   rw[aH,cell_of_row w b j cs E _ hb]
   simp;omega
  simp only[execOp,zar hx,zar hy,Instr.storeAt,Instr.sureAddr,Sem.run_bind,Sem.run_pure,Result.andThen_ok,run_storeVar_mid w b 0 T cs' ht hT h1])
def zyb(w:World)(v:Value):Ending→World→Prop:=fun e w'=>e= .returned v∧Fr none' w w'
def Pu(P:Program)(f:FuncId)(args:Array Value)(w:World)(v:Value):Prop:=Calls P f args w (zyb w v)
variable{args:Array Value}
theorem Pu.calls(h:Pu P f args w v):Calls P f args w fun e w'=>e= .returned v∧Fr none' w w':=h
theorem zbn(vs:List Value)(hf:P.funcs[f]? =some fn)(hb:fn.body=some c)(hn:Nat.ble vs.length fn.ntmps=true)
  (h:HT P c (bodyPost P fn (zyb w0 v)) ⟨fn.ntmps,[],none⟩ (zaa 0 vs) (Hp w0 none' [])):Pu P f vs.toArray w0 v:=zol hf hb hn (Hp w0 none' []) (.start _ _) h
theorem zdk(hf:fn.results= #[r])(h1:zhu P l (Hp w0 none' m) r u)(e:u=v):HX (bodyPost P fn (zyb w0 v)) .ret ⟨n,[],none⟩ l (Hp w0 none' m):=
 qm8 hf h1 fun _ hw=>⟨by rw[e],hw.fr⟩
theorem zie{q:ResultVar}{t:Value}(hf:fn.results= #[r,q])(h1:zhu P l (Hp w0 none' m) r u)(h2:zhu P l (Hp w0 none' m) q t)(e: .tuple #[u,t]=v):HX (bodyPost P fn (zyb w0 v)) .ret ⟨n,[],none⟩ l (Hp w0 none' m):=
 qm9 hf h1 h2 fun _ hw=>⟨by rw[e],hw.fr⟩
theorem zfc(hok:zee N l (.call ⟨.value (.func f),xs.toArray,tys⟩) d=true)(hb:za7 P f=true)(hx:evs l xs=some vs)
  (hc:∀w,Hp w0 F m w→Pu P f vs.toArray w v):HO P ⟨some d,.call ⟨.value (.func f),xs.toArray,tys⟩,ty,pos,after,g⟩ Q N l (Hp w0 F m) (α:=Unit) (fun _=>(d,v)::l) (fun _=>Hp w0 F m):=
 zsz (val:=fun _=>v) hok (qfz hb hx) (fun w hw=>(hc w hw).mono fun _ _ ⟨he,hf⟩=>⟨(),he,hw.keep hf⟩)
def Ct(P:Program)(f:FuncId)(args:Array Value)(w:World)(Fc:Nat→Prop)(val:α→Value)(φ:α→Prop)(its:α→List Item):Prop:=
 Calls P f args w fun e w'=>∃x,e= .returned (val x)∧φ x∧Its Fc w (its x) w'
def zjn(w:World)(Fc:Nat→Prop)(val:α→Value)(φ:α→Prop)(its:α→List Item):Ending→World→Prop:=fun e w'=>∃x,e= .returned (val x)∧φ x∧Its Fc w (its x) w'
variable{val:α→Value}{φ:α→Prop}
theorem zes(vs:List Value){its:α→List Item}(hf:P.funcs[f]? =some fn)(hb:fn.body=some c)(hn:Nat.ble vs.length fn.ntmps=true)
  (h:HT P c (bodyPost P fn (zjn w0 F val φ its)) ⟨fn.ntmps,[],none⟩ (zaa 0 vs) (Hp w0 F [])):Ct P f vs.toArray w0 F val φ its:=zol hf hb hn (Hp w0 F []) (.start _ _) h
theorem Ct.calls{Fc:Nat→Prop}{its:α→List Item}(h:Ct P f args w Fc val φ its):Calls P f args w fun e w'=>∃x,e= .returned (val x)∧φ x∧Its Fc w (its x) w':=h
theorem zbd{its:α→List Item}(x:α)(hf:fn.results= #[r])(h1:zhu P l (Hp w0 F m) r u)(e:u=val x)(hφ:φ x)(hs:(its x).Sublist m)(hst:∀it∈its x,it.Stable none'):HX (bodyPost P fn (zjn w0 F val φ its)) .ret ⟨n,[],none⟩ l (Hp w0 F m):=
 qm8 hf h1 fun _ hw=>⟨x,by rw[e],hφ,hw.its hs hst⟩
theorem zc1{q:ResultVar}{its:α→List Item}{t:Value}(x:α)(hf:fn.results= #[r,q])(h1:zhu P l (Hp w0 F m) r u)(h2:zhu P l (Hp w0 F m) q t)(e: .tuple #[u,t]=val x)(hφ:φ x)(hs:(its x).Sublist m)(hst:∀it∈its x,it.Stable none'):HX (bodyPost P fn (zjn w0 F val φ its)) .ret ⟨n,[],none⟩ l (Hp w0 F m):=
 qm9 hf h1 h2 fun _ hw=>⟨x,by rw[e],hφ,hw.its hs hst⟩
theorem qhd{its:α→List Item}(hok:zee N l (.call ⟨.value (.func f),xs.toArray,tys⟩) d=true)(hb:za7 P f=true)(hx:evs l xs=some vs)
  (hc:∀w,Hp w0 F m w→Ct P f vs.toArray w none' val φ its):HO P ⟨some d,.call ⟨.value (.func f),xs.toArray,tys⟩,ty,pos,after,g⟩ Q N l (Hp w0 F m) (α:={ x:α//φ x }) (fun x=>(d,val x.1)::l) (fun x=>Hp w0 F (its x.1++m)):=
 zsz (val:=fun x:{ x:α//φ x }=>val x.1) hok (qfz hb hx) (fun w hw=>(hc w hw).mono fun _ _ ⟨x,he,hx,hi⟩=>⟨⟨x,hx⟩,he,hw.call0 hi⟩)
def zcd(P:Program)(T:TypeId):Option Nat:=match P.info? T with|some ⟨_,_,sz,_,_,_,_,_,_,_⟩=>some sz|none=>none
theorem zbg(h:zcd P T=some n):∃i,P.info? T=some i∧i.size=n:=by
 unfold zcd at h
 split at h
 ·rename_i hi;exact⟨_,hi,cR h⟩
 ·cases h
def qhf(P:Program):List Field→Nat→Option Nat
 |⟨_,t,off,_,_,_,_⟩::_,0=>match zcd P t with|some n=>(bif Nat.beq n 0 then none else some off) |none=>none
 |_::r,n+1=>qhf P r n
 | [],_=>none
def zlz(P:Program)(T:TypeId)(f:Nat):Option Nat:=match P.underlying T with|some (.struct fs)=>qhf P fs.toList f|_=>none
theorem zs4:∀{fs:List Field} {n o:Nat},qhf P fs n=some o→∃f,fs[n]? =some f∧f.offset=o∧∃i,P.info? f.type=some i∧i.size≠0
 |⟨_,t,off,_,_,_,_⟩::_,0,o,h=>by
  simp only[qhf]at h
  split at h
  ·rename_i n hn
   obtain⟨i,hi,his⟩:=zbg hn
   cases hb:Nat.beq n 0
   ·rw[hb]at h
    refine⟨_,rfl,cR h,i,hi,fun e=>?_⟩
    rw[←his,e]at hb;cases hb
   ·rw[hb]at h;cases h
  ·cases h
 |_::r,n+1,o,h=>by
  obtain⟨f,h1,h2⟩:=zs4 (fs:=r) (n:=n) (o:=o) h
  exact⟨f,by simpa using h1,h2⟩
 | [],_,_,h=>by simp[qhf]at h
theorem zhv{f o:Nat}(hx:evO l x=some (.pointer (some ⟨b,i,none⟩)))(hf:zlz P T f=some o):OV P (.fieldAddr T x f) ty l H (.pointer (some ⟨b,i+o,none⟩)):=fun _ _ _ w _=>by
 unfold zlz at hf
 split at hf
 ·rename_i fs hu
  obtain⟨fd,h1,h2,q,h3,h4⟩:=zs4 hf
  have h1':fs[f]? =some fd:=by simpa using h1
  have ha:(⟨b,i,none⟩:Addr).add fd.offset=⟨b,i+o,none⟩:=by rw[h2];unfold Addr.add;split<;>simp_all
  simp only[execOp,zar hx,Instr.fieldAt,Sem.run_bind,run_underlying hu w,Result.andThen_ok,h1',Instr.sureAddr,Sem.run_pure,fieldPlace,sizeOf,typeInfo]
  simp[h3,h4,ha]
 ·cases hf
theorem zea{f o:Nat}(hx:evO l x=some (.pointer (some ⟨b,0,none⟩)))(hf:zlz P T f=some o):OV P (.fieldAddr T x f) ty l H (.pointer (some ⟨b,o,none⟩)):=by
 have:=zhv (H:=H) (ty:=ty) hx hf
 simpa using this
def qfd(P:Program)(T:TypeId):Option (Nat×Nat):=match P.underlying T with|some (.array n e)=>(match zcd P e with|some sz=>some (n,sz) |none=>none) |_=>none
def qif(P:Program)(T:TypeId):Option Nat:=match P.underlying T with|some (.slice e)=>zcd P e|_=>none
variable{k:IntKind}
theorem qmz{y:Operand}{sz:Nat}{j:Nat}(hx:evO l x=some (.pointer (some ⟨b,i,none⟩)))(hy:evO l y=some (.int k j))(hT:qfd P T=some (n,sz))(h1:j<n):OV P (.indexAddr T x y) ty l H (.pointer (some ⟨b,i+j*sz,none⟩)):=fun _ _ _ w _=>by
 unfold qfd at hT
 split at hT
 ·rename_i n' e hu
  split at hT
  ·rename_i sz' hs
   obtain⟨q,hq,hqs⟩:=zbg hs
   simp only[cO,gU]at hT
   obtain⟨rfl,rfl⟩:=hT
   have ha:(⟨b,i,none⟩:Addr).add (j*sz')=⟨b,i+j*sz',none⟩:=by unfold Addr.add;split<;>simp_all
   simp[execOp,zar hx,zar hy,Instr.indexAt,asIntOf,run_underlying hu w,Instr.sureAddr,h1,sizeOf,typeInfo,hq,hqs,ha]
  ·cases hT
 ·cases hT
theorem qiu{y:Operand}{j:Nat}(hx:evO l x=some (.pointer (some ⟨b,i,none⟩)))(hy:evO l y=some (.int k j))(hT:qfd P T=some (n,1))(h1:j<n):OV P (.indexAddr T x y) ty l H (.pointer (some ⟨b,i+j,none⟩)):=by
 have:=qmz (H:=H) (ty:=ty) hx hy hT h1
 rwa[bO]at this
theorem qm0{y:Operand}{c sz:Nat}{j:Nat}(hx:evO l x=some (.slice (some ⟨b,i,none⟩) n c))(hy:evO l y=some (.int k j))(hT:qif P T=some sz)(h1:j<n):OV P (.indexAddr T x y) ty l H (.pointer (some ⟨b,i+j*sz,none⟩)):=fun _ _ _ w _=>by
 unfold qif at hT
 split at hT
 ·rename_i e hu
  obtain⟨q,hq,hqs⟩:=zbg hT
  have ha:(⟨b,i,none⟩:Addr).add (j*sz)=⟨b,i+j*sz,none⟩:=by unfold Addr.add;split<;>simp_all
  simp[execOp,zar hx,zar hy,Instr.indexAt,asIntOf,run_underlying hu w,h1,sizeOf,typeInfo,hq,hqs,ha]
 ·cases hT
theorem qph{y:Operand}{c:Nat}{j:Nat}(hx:evO l x=some (.slice (some ⟨b,i,none⟩) n c))(hy:evO l y=some (.int k j))(hT:qif P T=some 1)(h1:j<n):OV P (.indexAddr T x y) ty l H (.pointer (some ⟨b,i+j,none⟩)):=by
 have:=qm0 (H:=H) (ty:=ty) hx hy hT h1
 rwa[bO]at this
end plainops
def Has(l:zav):zav→Prop
 | []=>True
 |(t,v)::r=>get l t=some v∧Has l r
theorem Has.sub{l:zav}:∀{l':zav},Has l l'→∀p∈l',get l p.1=some p.2
 | [],_,_,h=>nomatch h
 |(t,v)::r,h,p,hp=>by
  rcases aL.1 hp with rfl|hp
  ·exact h.1
  ·exact Has.sub h.2 p hp
def qe7(w0:World)(F:Nat→Prop)(N:Fm)(L:α→zav)(φ:α→Prop)(M:α→List Item)(μ:α→Nat)(x:α):Act→World→Prop:=qnc N L (fun y w=>φ y∧Hp w0 F (M y) w) μ x
theorem zc0(L:α→zav)(φ:α→Prop)(M:α→List Item)(μ:α→Nat)(x₀:α)(h₀:Has l (L x₀))(hφ:φ x₀)(hI:∀w,Hp w0 F m w→Hp w0 F (M x₀) w)
  (round:∀x,φ x→HT P c (Exit.then (qe7 w0 F N L φ M μ x) Q) N (L x) (Hp w0 F (M x))):HT P (.loop c) Q N l (Hp w0 F m):=
 qrp L (fun y w=>φ y∧Hp w0 F (M y) w) μ x₀ h₀.sub (fun w hw=>⟨hφ,hI w hw⟩) fun x a w s ⟨hx,hw⟩=>round x hx a w s hw
theorem zaw{L:α→zav}{φ:α→Prop}{M:α→List Item}{x:α}(y:α)(hl:Has l (L y))(hφ:φ y)(hI:∀w,Hp w0 F m w→Hp w0 F (M y) w)(hm:μ y<μ x):HX (Exit.then (qe7 w0 F N L φ M μ x) Q) .normal N l (Hp w0 F m):=
 qpv y hl.sub (fun w hw=>⟨hφ,hI w hw⟩) hm
theorem qty(l':zav)(m':List Item)(hl:Has l l')(hI:∀w,Hp w0 F m w→Hp w0 F m' w)(h:HX Q e N l' (Hp w0 F m')):HX Q e N l (Hp w0 F m):=qsa l' _ hl.sub hI h
theorem Hp.none(w:World)(h:Hp w0 F m w):Hp w0 F [] w:=h.sub (aK _)
end memops
section drawn
variable{S:World→Prop}{t:Nat}
def zom(Q:Exit→Act→World→Prop):Exit→Act→World→Prop
 | .panic _,_,_=>False
 | .outgrown,_,_=>False
 |e,a,w=>Q e a w
theorem zon:¬LetsOut (zom Q):=fun⟨_,_,h⟩=>h
def zjo(P:Program)(r:List Oper):Bool:=P.follows .mixedOrders&&r.all fun o=>qad o.op
theorem zpe(h:zom Q e a w):Q e a w:=by cases e<;>first|exact h|exact h.elim
def zoe(P:Program)(ops:Array Oper)(Q:Exit→Act→World→Prop)(S:World→Prop)(t:Nat):Nat→Array Bool→Act→World→Prop
 |0,listed,a,w=>Region.ready .any ops listed=[]∧Q .normal a w
 |n+1,listed,a,w=>(Region.ready .any ops listed=[]→Q .normal a w)∧
  ∀i∈Region.ready .any ops listed,wpOp P ops Q i (fun a' w'=>(i<t→S w')∧zoe P ops Q S t n (listed.setIfInBounds i true) a' w') a w
theorem zid:∀(n:Nat) (listed:Array Bool) (a:Act) (w:World),zoe P ops Q S t n listed a w→wpAny P .any ops Q n listed a w
 |0,_,_,_,h=>h
 |n+1,_,_,_,h=>⟨h.1,fun i hi=>wpOp_mono (fun a' w' h'=>zid n _ a' w' h'.2) (h.2 i hi)⟩
def qlg(ops:Array Oper)(t:Nat):Bool:=Nat.ble ops.size t||(Region.sinkB .any ops t&&Region.chainB .any ops t)
variable{listed:Array Bool}{i:Nat}
theorem qil(ht:qlg ops t=true)(inv:HeadInv .any ops t listed){j:Nat}(hi:i∈Region.ready .any ops listed)(hlt:i<t)(hj:j∈Region.ready .any ops listed):j<t:=by
 simp only[qlg,iE,bH]at ht
 obtain⟨hun,oi,hoi, -⟩:=mem_ready.1 hi
 obtain⟨-,oj,hoj, -⟩:=mem_ready.1 hj
 have hil:i<ops.size:=(bR.1 hoi).1
 have hjl:j<ops.size:=(bR.1 hoj).1
 rcases ht with ht|⟨h1,h2⟩
 ·have:=bU ht
  omega
 ·refine gK fun hc=>?_
  exact tail_waits h1 h2 oQ inv _ i rfl oQ hun j oQ hj
variable{oi:Oper}
theorem zy0(hi:ops[i]? =some oi)(hsel:∀(j:Nat) (o:Oper) cs b,ops[j]? =some o→o.op≠ .select cs b)
  (hQ:∀c a w,¬Q (.panic c) a w) (ht:qlg ops t=true) (hit:i<t):
  ∀(fuel:Nat) (listed:Array Bool) (a:Act) (w:World),HeadInv .any ops t listed→
   (∀j oj,ops[j]? =some oj→j≠i→listed.getD j true=false→(∀e∈oj.after,Region.binds .any e=true→e.on≠i)→oi.apart ops oj=true)→
   i∈Region.ready .any ops listed→YieldsIf P ops S oi v a→S w→
   zoe P ops Q S t fuel (listed.setIfInBounds i true) (a.put oi.dst v) w→zoe P ops Q S t (fuel+1) listed a w:=by
 intro fuel
 induction fuel with
 |zero=>
  intro listed a w _ _ hr hy hS H
  refine⟨fun h=>(by rw[h]at hr;cases hr),fun j hj=>?_⟩
  by_cases hji:j=i
  ·subst hji;exact hy.wpOp hi hS ⟨fun _=>hS,H⟩
  ·have:=ready_mono hj hji
   rw[H.1]at this
   cases this
 |succ fuel ih=>
  intro listed a w inv hfree hr hy hS H
  refine⟨fun h=>(by rw[h]at hr;cases hr),fun j hj=>?_⟩
  by_cases hji:j=i
  ·subst hji;exact hy.wpOp hi hS ⟨fun _=>hS,H⟩
  ·have hjlt:j<t:=qil ht inv hr hit hj
   have h1:=H.2 j (ready_mono hj hji)
   obtain⟨hjun,oj,hoj,hall⟩:=mem_ready.1 hj
   have hnot:∀e∈oj.after,Region.binds .any e=true→e.on≠i:=fun e he hb heq=>by
    have h2:=hall e he hb
    rw[heq,getD_both (mem_ready.1 hr).1]at h2
    cases h2
   have inv':=inv.set hj hjlt
   have hfree':∀k ok,ops[k]? =some ok→k≠i→(listed.setIfInBounds j true).getD k true=false→
     (∀e∈ok.after,Region.binds .any e=true→e.on≠i)→oi.apart ops ok=true:=fun k ok hk hki hun hno=>by
    refine hfree k ok hk hki ?_ hno
    by_cases hjk:j=k
    ·subst hjk;exact hjun
    ·rw[getD_set_ne true hjk]at hun;exact hun
   have h2:=wpOp_putIf hoj (hfree j oj hoj hji hjun hnot) (fun cs b=>hsel i oi cs b hi) (fun cs b=>hsel j oj cs b hoj) (fun c a w h=>absurd h (hQ c _ w)) hy h1
   refine wpOp_mono (fun a' w' h3=>⟨fun _=>h3.2.1 hjlt,ih (listed.setIfInBounds j true) a' w' inv' hfree' (ready_mono hr (Ne.symm hji)) h3.1 (h3.2.1 hjlt) ?_⟩) h2
   rw[dX _ _ hji]
   exact h3.2.2
def HD(P:Program)(ops:Array Oper)(Q:Exit→Act→World→Prop)(S:World→Prop)(t:Nat)(N:Fm)(n:Nat)(listed:Array Bool)(l:zav)(H:World→Prop):Prop:=
 HeadInv .any ops t listed→∀a w,St N l a→H w→zoe P ops (zom Q) S t n listed a w
theorem zgh(ops:Array Oper)(t:Nat):HeadInv .any ops t (Array.replicate ops.size false):=
 ⟨by simp,fun j oj _ h=>(by rw[getD_replicate_false]at h;cases h),fun k _ hk=>by simp[hk]⟩
theorem qct{r:List Oper}(t:Nat)(hm:zjo P r=true)(hdr:∀w,H w→H w.drew)
  (h:HD P r.toArray Q H t N r.length (Array.replicate r.length false) l H):HT P (.region id r.toArray true) Q N l H:=fun a w s hw=>by
 simp only[zjo,bH,eJ]at hm
 refine wpIn_mono (wpIn_region_any (Q:=zom Q) hm.1 (zwl (by simpa using hm.2) zon N.r _ _ _ _ (zid (S:=H) (t:=t) _ _ _ _ ?_))) (fun _ _ _ h=>zpe h)
 have:=h (by simpa using zgh r.toArray t) a w.drew s (hdr w hw)
 simpa using this
def znn(ops:Array Oper)(t:Nat)(listed:Array Bool)(i:Nat):Bool:=
 Nat.blt i t&&(qlg ops t&&(Region.noSelect ops&&(Region.free .any ops listed i&&(Region.ready .any ops listed).contains i)))
theorem zww(hb:znn ops t listed i=true)(hi:ops[i]? =some oi)(hS:∀w,H w→S w)
  (hy:∀a,St N l a→YieldsIf P ops S oi v a) (hl:∀a,St N l a→St N l' (a.put oi.dst v))
  (k:HD P ops Q S t N n (listed.setIfInBounds i true) l' H):HD P ops Q S t N (n+1) listed l H:=by
 simp only[znn,bH]at hb
 obtain⟨h1,h2,h3,h4,h5⟩:=hb
 have hlt:i<t:=bU h1
 have hr:i∈Region.ready .any ops listed:=by simpa using h5
 intro inv a w s hw
 exact zy0 hi (Region.noSelect_spec h3) (fun c a w h=>h.elim) h2 hlt n listed a w inv (Region.free_spec hi h4) hr (hy a s) (hS w hw) (k (inv.set hr hlt) _ w (hl a s) hw)
def nth{α:Type}:List α→Nat→Option α
 | [],_=>none
 |x::_,0=>some x
 |_::r,n+1=>nth r n
theorem zp4{α:Type}:∀(l:List α) (n:Nat),nth l n=l[n]?
 | [],_=>rfl
 |_::_,0=>rfl
 |_::r,n+1=>by simp only[nth,zp4 r n];rfl
theorem zei(h:nth ops.toList i=some o):ops[i]? =some o:=by rw[zp4]at h;simpa using h
def qn9:List Nat→Nat→Bool
 | [],_=>false
 |x::r,n=>Nat.beq x n||qn9 r n
def qnh(listed:List Bool):List Edge→Bool
 | []=>true
 |e::r=>(!Region.binds .any e||nth listed e.on==some true)&&qnh listed r
def qrh:Op→Bool
 | .call ⟨.builtin .len,_,_⟩ | .call ⟨.builtin .cap,_,_⟩ | .call ⟨.builtin .min,_,_⟩ | .call ⟨.builtin .max,_,_⟩=>true
 | .call _| .alloc _| .box _ _| .buildSlice _ _ _| .insert _ _ _ _| .store _ _ _| .makeMap _ _| .makeSlice _ _ _| .mapUpdate _ _ _ _| .mapEntry _ _ _| .entryStore _ _ _ _| .range _ _| .next _ _| .entry _| .go _| .defer _| .panic _=>false
 |_=>true
def qcc(listed:List Bool)(E:List Nat):Nat→List Oper→Option Nat
 |_,[]=>none
 |i,o::r=>bif nth listed i==some false&&(qrh o.op&&(!qn9 E i&&qnh listed o.after.toList))then some i else qcc listed E (i+1) r
def pick(ops:Array Oper)(listed:Array Bool)(E:List Nat):Option Nat:=qcc listed.toList E 0 ops.toList
theorem zro(d:Nat)(v v':Value)(h:get l d=some v)(e:v=v')(k:HD P ops Q S t N n listed ((d,v')::l) H):HD P ops Q S t N n listed l H:=by
 intro inv a w s hw
 refine k inv a w ⟨s.size,s.defers,fun t u hu=>?_⟩ hw
 rw[zb4]at hu
 by_cases e':d=t
 ·subst e';rw[if_pos rfl]at hu;rw[←cR hu,←e];exact s.slot _ _ h
 ·rw[if_neg e']at hu;exact s.slot t u hu
theorem zet{l':α→zav}{H':α→World→Prop}(hr0:Region.ready .any ops listed=[t]∧Region.ready .any ops (listed.setIfInBounds t true)=[])(hi0:nth ops.toList t=some oi)(hg:oi.guard=none)
  (h:HO P oi (zom Q) N l H l' H') (k:∀x,HX Q .normal N (l' x) (H' x)):HD P ops Q S t N 1 listed l H:=by
 intro inv a w s hw
 have hi:=zei hi0
 obtain⟨hr,hr'⟩:=hr0
 refine⟨fun h=>(by rw[hr]at h;cases h),fun j hj=>?_⟩
 obtain rfl:j=t:=by rw[hr]at hj;simpa using hj
 unfold wpOp
 simp only[hi]
 rw[if_pos (by simp[Region.wanted,hg])]
 exact .inl (And.right<|h a w s hw _ fun x a' w' s' hw'=>⟨fun h=>absurd h (Nat.lt_irrefl _),hr',k x a' w' s' hw'⟩)
theorem zdn(hr:Region.ready .any ops listed=[])(k:HX Q .normal N l H):HD P ops Q S t N 0 listed l H:=
 fun _ a w s hw=>⟨hr,k a w s hw⟩
def okG(ops:Array Oper)(l:zav)(g:Option (Nat×Bool)):Bool:=match g with
 |none=>true
 |some (j,want)=>(match (ops[j]?).bind (·.dst)with|some t=>(match get l t with|some (.bool c)=>c==want|_=>false) |none=>false)
variable{g:Option (Nat×Bool)}
theorem zkl(s:St N l a)(h:okG ops l g=true):Region.wanted ⟨dst,op,ty,pos,after,g⟩ (yielded ops a.tmps)=true:=by
 cases g with
 |none=>rfl
 |some jw=>
  obtain⟨j,want⟩:=jw
  refine zj0 (o:=⟨dst,op,ty,pos,after,some (j,want)⟩) (b:=true) s ?_
  simp only[okG,zm7]at h⊢
  split at h
  ·split at h
   ·simpa using h
   ·cases h
  ·cases h
theorem d_v(E:List Nat)(_hp:pick ops listed E=some i)
  (hi:nth ops.toList i=some ⟨some d,op,ty,pos,after,g⟩) (hb:znn ops t listed i=true) (hS:∀w,H w→S w) (hg:okG ops l g=true) (hok:zee N l op d=true) (hv:OV P op ty l S v)
  (k:HD P ops Q S t N n (listed.setIfInBounds i true) ((d,v)::l) H):HD P ops Q S t N (n+1) listed l H:=by
 obtain⟨hs,hN,hk⟩:=ze0 hok
 exact zww hb (zei hi) hS (fun a s=>.inl ⟨zkl s hg,fun w hw=>by rw[s.exec _ hs hk,zkf _ _ none _ _ _ "" _ #[] _ none];exact hv none "" #[] w hw⟩) (fun a s=>s.put hN v) k
end drawn
theorem l_v{g:Option (Nat×Bool)}(hg:okG ops l g=true)(hok:zee N l op d=true)(hv:OV P op ty l H v)
  (k:HL P ops Q N rest ((d,v)::l) H):HL P ops Q N (⟨some d,op,ty,pos,after,g⟩::rest) l H:=by
 intro a w s hw
 unfold wpListIn
 rw[if_pos (zkl s hg)]
 exact(fun x=>qli x.1 x.2 N.r) (zx2 hok hv a w s hw _ fun _ a' w' s' hw'=>k a' w' s' hw')
variable{w0:World}{F:Nat→Prop}
theorem zah{m m':List Item}{l':α→zav}{H':α→World→Prop}(hp:m.Perm m')(h:HO P o Q N l (Hp w0 F m') l' H'):HO P o Q N l (Hp w0 F m) l' H':=
 fun a w s hw=>h a w s (hw.perm hp)
theorem zcg(a b:α)(l:List α):(a::b::l).Perm (b::a::l):=.swap _ _ _
theorem zdf(a b c:α)(l:List α):(a::b::c::l).Perm (c::a::b::l):=(List.Perm.cons a (.swap _ _ _)).trans (.swap _ _ _)
theorem zfq(a b c d:α)(l:List α):(a::b::c::d::l).Perm (d::a::b::c::l):=(List.Perm.cons a (zdf _ _ _ _)).trans (.swap _ _ _)
theorem zji(a b c d e:α)(l:List α):(a::b::c::d::e::l).Perm (e::a::b::c::d::l):=(List.Perm.cons a (zfq _ _ _ _ _)).trans (.swap _ _ _)
theorem zgb{m m':List Item}(hp:m.Perm m')(h:HL P ops Q N rest l (Hp w0 F m')):HL P ops Q N rest l (Hp w0 F m):=fun a w s hw=>h a w s (hw.perm hp)
theorem ztn{m m':List Item}(hp:m.Perm m')(h:HT P c Q N l (Hp w0 F m')):HT P c Q N l (Hp w0 F m):=fun a w s hw=>h a w s (hw.perm hp)
theorem ov(h:∀d pos after w,H w→(execOp (ev l) ⟨d,op,ty,pos,after,none⟩).run P w= .ok (.value v) w):OV P op ty l H v:=h
theorem OV.run{op:Op}{ty:TypeId}{v:Value}(h:OV P op ty l H v):∀d pos after w,H w→(execOp (ev l) ⟨d,op,ty,pos,after,none⟩).run P w= .ok (.value v) w:=h
end
attribute [irreducible] qe7 HL HT HX HD HO OV Pu Ct
variable{P:Program}{H:World→Prop}{ty xt yt:TypeId}{x y:Operand}{a b:Nat}
theorem zxd(n:Int)(h0: -9223372036854775808≤n)(h1:n<9223372036854775808):IntKind.i64.wrap n=n:=by
 simp[IntKind.wrap,IntKind.bits,IntKind.signed];omega
theorem qvr(n:Int)(h0:0≤n)(h1:n<18446744073709551616):IntKind.u64.wrap n=n:=by
 simp[IntKind.wrap,IntKind.bits,IntKind.signed];omega
theorem zwf{op:Op}{v':Value}(h:OV P op ty l H v)(e:v=v'):OV P op ty l H v':=e▸h
theorem zf5{op:BinOp}{vx vy:Value}(hx:evO l x=some vx)(hy:evO l y=some vy)(h:∀w,(do eqGuard op xt x y vx vy;binOp op xt vx vy:Sem Value).run P w= .ok v w):OV P (.binOp op xt x y yt) ty l H v:=ov fun _ _ _ w _=>by
 simp only[execOp,zar hx,zar hy]
 rw[Sem.run_bind,h w]
 rfl
section i64
theorem qs4(hx:evO l x=some (.int .i64 a))(hy:evO l y=some (.int .i64 b))(h:a+b<9223372036854775808):OV P (.binOp .add xt x y yt) ty l H (.int .i64 (a+b:Nat)):=
 zwf (zf5 hx hy fun _=>rfl) (by rw[zxd]<;>first|rfl|omega)
end i64
theorem zbw(n a:Nat):BitVec.ofInt n (a:Int)=BitVec.ofNat n a:=by simp
theorem zdu(n:Nat):IntKind.u64.wrap (n:Int)=((n%18446744073709551616:Nat):Int):=by
 simp[IntKind.wrap,IntKind.bits,IntKind.signed]
theorem zlo(n:Nat):IntKind.u8.wrap (n:Int)=((n%256:Nat):Int):=by
 simp[IntKind.wrap,IntKind.bits,IntKind.signed]
theorem zj7(n:Nat):IntKind.u32.wrap (n:Int)=((n%4294967296:Nat):Int):=by
 simp[IntKind.wrap,IntKind.bits,IntKind.signed]
theorem qpd(hx:evO l x=some (.int .u64 a))(hy:evO l y=some (.int .u64 b))(ha:a<18446744073709551616):OV P (.binOp .and xt x y yt) ty l H (.int .u64 (a&&& b:Nat)):=
 zwf (zf5 hx hy fun _=>rfl) (by
  show Value.int .u64 (IntKind.u64.wrap ((BitVec.ofInt 64 a&&& BitVec.ofInt 64 b).toNat))=_
  rw[zbw,zbw,zdu,fR,bW,bW]
  congr 2
  have h1:a%2^64=a:=bD ha
  have h2:(a&&& b%2^64)=(a&&& b):=by
   have:=Nat.and_mod_two_pow (a:=a) (b:=b) (n:=64)
   rw[h1]at this
   rw[←this]
   exact bD (cL gL ha)
  rw[h1,h2]
  exact bD (cL gL ha))
theorem qr0(hx:evO l x=some (.int .u64 a))(hy:evO l y=some (.int .u64 b))(ha:a<18446744073709551616)(hb:b<18446744073709551616):OV P (.binOp .or xt x y yt) ty l H (.int .u64 (a|||b:Nat)):=
 zwf (zf5 hx hy fun _=>rfl) (by
  show Value.int .u64 (IntKind.u64.wrap ((BitVec.ofInt 64 a|||BitVec.ofInt 64 b).toNat))=_
  rw[zbw,zbw,zdu,lF,bW,bW]
  congr 2
  rw[bD (show a<2^64 from ha),bD (show b<2^64 from hb)]
  exact bD (kP (n:=64) ha hb))
theorem qev(hx:evO l x=some (.int .u64 a))(hy:evO l y=some (.int .u64 b))(ha:a<18446744073709551616)(hb:b<18446744073709551616):OV P (.binOp .andNot xt x y yt) ty l H (.int .u64 (a&&& (18446744073709551615^^^b):Nat)):=
 zwf (zf5 hx hy fun _=>rfl) (by
  show Value.int .u64 (IntKind.u64.wrap ((BitVec.ofInt 64 a&&& ~~~ BitVec.ofInt 64 b).toNat))=_
  rw[zbw,zbw,zdu,fR,BitVec.toNat_not,bW,bW]
  congr 2
  rw[bD (show a<2^64 from ha),bD (show b<2^64 from hb)]
  have e:2^64 - 1 - b=18446744073709551615^^^b:=by
   have:=BitVec.toNat_not (x:=BitVec.ofNat 64 b)
   rw[bW,bD (show b<2^64 from hb)]at this
   rw[←this,←BitVec.allOnes_xor,kS,bW,bD (show b<2^64 from hb)]
   rfl
  rw[e]
  exact bD (cL gL ha))
theorem qs9(hx:evO l x=some (.int .u8 a))(hy:evO l y=some (.int .u8 b))(ha:a<256)(hb:b<256):OV P (.binOp .or xt x y yt) ty l H (.int .u8 (a|||b:Nat)):=
 zwf (zf5 hx hy fun _=>rfl) (by
  show Value.int .u8 (IntKind.u8.wrap ((BitVec.ofInt 8 a|||BitVec.ofInt 8 b).toNat))=_
  rw[zbw,zbw,zlo,lF,bW,bW]
  congr 2
  rw[bD (show a<2^8 from ha),bD (show b<2^8 from hb)]
  exact bD (kP (n:=8) ha hb))
section const
theorem zko(hx:evO l x=some (.int .u64 a))(hy:evO l y=some (.int .u64 (@OfNat.ofNat Int b _)))(ha:a<18446744073709551616):OV P (.binOp .and xt x y yt) ty l H (.int .u64 (a&&& (@OfNat.ofNat Nat b _):Nat)):=qpd hx hy ha
theorem qir(hx:evO l x=some (.int .u64 a))(hy:evO l y=some (.int .u64 1)):OV P (.binOp .and xt x y yt) ty l H (.int .u64 (a%2:Nat)):=
 zwf (zf5 hx hy fun _=>rfl) (by
  show Value.int .u64 (IntKind.u64.wrap ((BitVec.ofInt 64 a&&& BitVec.ofInt 64 (1:Nat)).toNat))=_
  rw[zbw,zbw,zdu,fR,bW,bW]
  congr 2
  rw[show 1%2^64=1 from rfl,kK]
  omega)
theorem qll(hx:evO l x=some (.int .u8 a))(hy:evO l y=some (.int .u8 1)):OV P (.binOp .and xt x y yt) ty l H (.int .u8 (a%2:Nat)):=
 zwf (zf5 hx hy fun _=>rfl) (by
  show Value.int .u8 (IntKind.u8.wrap ((BitVec.ofInt 8 a&&& BitVec.ofInt 8 (1:Nat)).toNat))=_
  rw[zbw,zbw,zlo,fR,bW,bW]
  congr 2
  rw[show 1%2^8=1 from rfl,kK]
  omega)
theorem qpo{c:Operand}{b:Bool}(hc:evO l c=some (.bool b))(hb:b=true)(hx:evO l x=some v):OV P (.pick c x y) ty l H v:=ov fun _ _ _ w _=>by
 subst hb
 simp only[execOp,zar hc,zar hx];rfl
theorem qpn{c:Operand}{b:Bool}(hc:evO l c=some (.bool b))(hb:b=false)(hy:evO l y=some v):OV P (.pick c x y) ty l H v:=ov fun _ _ _ w _=>by
 subst hb
 simp only[execOp,zar hc,zar hy];rfl
theorem qlw{s:Nat}(hx:evO l x=some (.int .u64 a))(hy:evO l y=some (.int .u64 (@OfNat.ofNat Int s _)))(hs:(@OfNat.ofNat Nat s _)<64):OV P (.binOp .shr xt x y yt) ty l H (.int .u64 (a/2^(@OfNat.ofNat Nat s _):Nat)):=
 zf5 hx hy fun w=>by
  have h0:¬((@OfNat.ofNat Int s _)<0):=by show¬((s:Int)<0);omega
  have e:min s 64=s:=dB (Nat.le_of_lt hs)
  have e3:(a:Int).fdiv ((2^s:Nat):Int)=((a/2^s:Nat):Int):=by
   rw[iJ _ (kF _)];rfl
  show((binOp .shr xt (.int .u64 a) (.int .u64 (s:Int))).run P w)= .ok (.int .u64 ((a/2^s:Nat):Int)) w
  have h0':¬((s:Int)<0):=oQ
  simp only[binOp,Op.shift,h0',if_false,cB]
  rw[←e3,show min s IntKind.u64.bits=s from e]
  simp
theorem zrk(hx:evO l x=some (.int .u64 a))(hy:evO l y=some (.int .u64 b))(h:a+b<18446744073709551616):OV P (.binOp .add xt x y yt) ty l H (.int .u64 (a+b:Nat)):=
 zwf (zf5 hx hy fun _=>rfl) (by rw[qvr]<;>first|rfl|omega)
theorem qdo(n:Int):IntKind.i64.wrap n=(n+9223372036854775808)%18446744073709551616 - 9223372036854775808:=by
 simp only[IntKind.wrap,IntKind.bits,IntKind.signed]
 simp
 split<;>omega
theorem qdf(a:Nat)(s:Nat)(hs:s<63):IntKind.i64.wrap ((BitVec.ofInt 64 (IntKind.i64.wrap (a:Int))&&& BitVec.ofInt 64 ((2^s - 1:Nat):Int)).toNat:Int)=((a&&& (2^s - 1):Nat):Int):=by
 have e1:BitVec.ofInt 64 (IntKind.i64.wrap (a:Int))=BitVec.ofNat 64 a:=by
  apply BitVec.eq_of_toNat_eq
  rw[BitVec.toNat_ofInt,bW,qdo]
  have:(((a:Int)+9223372036854775808)%18446744073709551616 - 9223372036854775808)%((2^64:Nat):Int)=(a:Int)%18446744073709551616:=by
   rw[show((2^64:Nat):Int)=18446744073709551616 from rfl];omega
  rw[this]
  omega
 have hp:2^s≤2^62:=dK dQ oQ
 rw[e1,zbw,fR,bW,bW]
 rw[bD (show 2^s - 1<2^64 by omega),eX,eX]
 rw[Nat.mod_mod_of_dvd _ (Nat.pow_dvd_pow 2 oQ)]
 have:=dY a (iS s)
 exact zxd _ oQ oQ
theorem qpj(hx:evO l x=some (.int .u64 a))(hy:evO l y=some (.int .u64 (@OfNat.ofNat Int b _))):OV P (.binOp .mul xt x y yt) ty l H (.int .u64 (a*(@OfNat.ofNat Nat b _)%18446744073709551616:Nat)):=
 zwf (zf5 hx hy fun _=>rfl) (by
  have e:(a:Int)*(@OfNat.ofNat Int b _)=((a*b:Nat):Int):=by rw[jW];rfl
  rw[e,zdu];rfl)
variable{t:TypeId}
theorem qpl(hx:evO l x=some (.int .u64 a))(ha:a<18446744073709551616):OV P (.unOp .xor t x) ty l H (.int .u64 (18446744073709551615^^^a:Nat)):=ov fun _ _ _ w _=>by
 have e:(Op.unary .xor (.int .u64 a):Sem Value).run P w= .ok (.int .u64 (18446744073709551615^^^a:Nat)) w:=by
  have h:(18446744073709551615^^^a)<18446744073709551616:=kL (n:=64) dQ ha
  show Result.ok (Value.int .u64 (IntKind.u64.wrap ((BitVec.ofInt 64 ((18446744073709551615:Nat):Int)^^^BitVec.ofInt 64 (a:Int)).toNat))) w=_
  rw[zbw,zbw,zdu,kS,bW,bW,bD (show a<2^64 from ha),bD (show 18446744073709551615<2^64 by decide),bD h]
 simp only[execOp,zar hx,Sem.run_bind,e];rfl
theorem qpk(hx:evO l x=some (.int .u64 a))(h0:0<a)(ha:a<18446744073709551616):OV P (.unOp .neg t x) ty l H (.int .u64 (18446744073709551616 - a:Nat)):=ov fun _ _ _ w _=>by
 have e:(Op.unary .neg (.int .u64 a):Sem Value).run P w= .ok (.int .u64 (18446744073709551616 - a:Nat)) w:=by
  show Result.ok (Value.int .u64 (IntKind.u64.wrap (0 - (a:Int)))) w=_
  have:IntKind.u64.wrap (0 - (a:Int))=((18446744073709551616 - a:Nat):Int):=by
   simp[IntKind.wrap,IntKind.bits,IntKind.signed];omega
  rw[this]
 simp only[execOp,zar hx,Sem.run_bind,e];rfl
end const
variable{Q:Exit→Act→World→Prop}{ops:Array Oper}{rest:List Oper}{w0:World}{F:Nat→Prop}{m:List Item}{pos:String}{after:Array Edge}{g:Option (Nat×Bool)}{d:Nat}
def zmi(P:Program)(T:TypeId):Option TypeId:=match P.underlying T with|some (.slice e)=>some e|_=>none
variable{T e:TypeId}
theorem zbs(h:zmi P T=some e):P.underlying T=some (.slice e):=by
 unfold zmi at h
 split at h
 ·rename_i hu;rw[hu,cR h]
 ·cases h
def zpt(P:Program)(e:TypeId):Option (Nat×Nat×Value):=match P.info? e with|some ⟨_,_,sz,bt,_,_,_,some z,_,_⟩=>some (sz,bt,z) |_=>none
variable{z:Value}
theorem zh2{s:Nat}(h:zpt P e=some (s,b,z)):∃i,P.info? e=some i∧i.size=s∧i.bytes=b∧i.zero=some z:=by
 unfold zpt at h
 split at h
 ·rename_i hi
  simp only[cO,gU]at h
  obtain⟨h1,h2,h3⟩:=h
  exact⟨_,hi,h1,h2,by rw[h3]⟩
 ·cases h
theorem zu9(z:Value)(n:Nat):madeCells #[z] n=Array.replicate n z:=by
 refine Array.ext (by simp[madeCells]) fun i h1 h2=>?_
 simp[madeCells,lK]
variable{i:Nat}
theorem ze2{vs:Array Value}(hx:evO l x=some (.tuple vs))(hi:nth vs.toList i=some v):OV P (.extract x i) ty l H v:=ov fun _ _ _ w _=>by
 have h:vs[i]? =some v:=by rw[zp4]at hi;simpa using hi
 simp[execOp,zar hx,Instr.extract,h]
variable{n:Nat}
theorem zmm{a:Option Addr}{c:Nat}(hx:evO l x=some (.slice a n c))(hT:(zmi P T).isSome=true):OV P (.call ⟨.builtin .len, #[x], #[T]⟩) ty l H (.int .i64 n):=ov fun _ _ _ w _=>by
 obtain⟨e,he⟩:=cI.1 hT
 simp[execOp,resolve,invoke,builtin,zar hx,Builtin.len_,run_underlying (zbs he) w,goInt]
variable{s:ByteArray}
theorem zgn(hx:evO l x=some (.string s))(hT:P.underlying T=some .string):OV P (.call ⟨.builtin .len, #[x], #[T]⟩) ty l H (.int .i64 s.size):=ov fun _ _ _ w _=>by
 simp[execOp,resolve,invoke,builtin,zar hx,Builtin.len_,run_underlying hT w,goInt]
variable{k:IntKind}
theorem qrc(hok:zee N l (.makeSlice T x y) d=true)(hx:evO l x=some (.int k n))(hy:evO l y=some (.int k n))
  (hT:zmi P T=some e) (hi:zpt P e=some (1,b,z)) (hz:z.cells= #[z]) (hb:b*n≤281474976710656) (hn:n≤9223372036854775807):
  HO P ⟨some d,.makeSlice T x y,ty,pos,after,g⟩ Q N l (Hp w0 F m) (α:={ b:Nat//w0.heap.size≤b }) (fun c=>(d,.slice (some ⟨c.1,0,none⟩) n n)::l) (fun c=>Hp w0 F (pt c.1 (.cells (Array.replicate n z) e (0,0))::m)):=
 zh6 (val:=fun c:{ b:Nat//w0.heap.size≤b }=>.slice (some ⟨c.1,0,none⟩) n n) hok (fun w hw=>by
  obtain⟨i,h1,h2,h3,h4⟩:=zh2 hi
  refine⟨⟨w.heap.size,hw.fr.size⟩,w.alloc (.cells (Array.replicate n z) e),?_,hw.alloc _⟩
  have hr:=run_make (P:=P) w T e i z (zbs hT) h1 h4 k k n n oQ oQ (by rw[h3];generalize hq:b*n=q at hb;rw[←jW,hq];omega) oQ
  rw[h2,bO,cB,hz,zu9]at hr
  simp only[execOp,zar hx,zar hy,Sem.run_bind,hr,Result.andThen_ok,Sem.run_pure])
theorem qmj(hok:zee N l (.makeSlice T x y) d=true)(hx:evO l x=some (.int k n))(hy:evO l y=some (.int k n))
  (hT:zmi P T=some e) (hi:zpt P e=some (1,b,z)) (hz:z.cells= #[z]) (hb:b*n≤281474976710656) (hn:n≤9223372036854775807)
  (k':∀c,w0.heap.size≤c→HL P ops Q N rest ((d,.slice (some ⟨c,0,none⟩) n n)::l) (Hp w0 F (pt c (.cells (Array.replicate n z) e (0,0))::m))):
  HL P ops Q N (⟨some d,.makeSlice T x y,ty,pos,after,none⟩::rest) l (Hp w0 F m):=za1 rfl (qrc hok hx hy hT hi hz hb hn) fun c=>k' c.1 c.2
theorem ze3{a:Addr}(hx:evO l x=some (.pointer (some a)))(hT:zja P T=true)(hF:¬F a.block)(hv:w0.cell? a=some v):OV P (.load T x) ty l (Hp w0 F m) v:=
 za0 hx hT (fun _ hw=>hw.old hF hv)
theorem qpr(hx:evO l x=some (.string s))(hy:evO l y=some (.int k i))(hT:P.underlying T=some .string)(hi:i<s.size):OV P (.index T x y) ty l H (.int .u8 (s[i].toNat:Nat)):=ov fun _ _ _ w _=>by
 have:s[i]? =some s[i]:=by simp[hi]
 simp[execOp,zar hx,zar hy,Instr.index,asIntOf,run_underlying hT w,this]
theorem qis{cs:Array Value}(hx:evO l x=some (.agg cs))(hy:evO l y=some (.int k i))(hT:P.underlying T=some (.array n e))(he:zcd P e=some 1)(ho:zja P e=true)(hi:i<n)(hv:cs[i]? =some v):OV P (.index T x y) ty l H v:=ov fun _ _ _ w _=>by
 obtain⟨q,hq,hqs⟩:=zbg he
 have hagg:(isAgg e).run P w= .ok false w:=by
  unfold zja at ho
  cases hu:P.underlying e with
  |none=>simp[hu]at ho
  |some d=>
   unfold isAgg
   rw[Sem.run_bind,run_underlying hu w]
   cases d<;>simp_all
 simp[execOp,zar hx,zar hy,Instr.index,asIntOf,run_underlying hT w,hi,sizeOf,typeInfo,hq,hqs,part,hagg,hv]
def over(cs:List Value)(off:Nat)(vs:List Value):List Value:=cs.take off++vs++cs.drop (off+vs.length)
theorem qj4:∀(vs:List Value) (k off:Nat) (cs:Array Value),off+k+vs.length≤cs.size→
  ((vs.zipIdx k).foldl (fun cs (p:Value×Nat)=>cs.setIfInBounds (off+p.2) p.1) cs).toList=over cs.toList (off+k) vs:=by
 intro vs
 induction vs with
 |nil=>intro k off cs _;simp[over]
 |cons v r ih=>
  intro k off cs h
  simp only[aW]at h
  rw[List.zipIdx_cons,List.foldl_cons,ih (k+1) off _ (by simp;omega)]
  have hlt:off+k<cs.toList.length:=by simp;omega
  simp only[over,kD,aW]
  rw[show off+(k+1)=off+k+1 by omega,dA (by simpa using hlt),dO oQ]
  have e1:(cs.toList.set (off+k) v).take (off+k)=cs.toList.take (off+k):=by
   rw[eP oQ]
  rw[e1]
  simp
  congr 1
  omega
def zek(z:List Value):List (Nat×Nat×Value)→List Value
 | []=>z
 |p::r=>zek (over z p.1 p.2.2.cells.toList) r
def qaj(n:Nat)(L:List (Nat×Nat×Value)):Prop:=∀p∈L,p.2.2.cells.size=p.2.1∧p.1+p.2.1≤n
def zdi(n:Nat):List (Nat×Nat×Value)→Bool
 | []=>true
 |p::r=>(Nat.beq p.2.2.cells.size p.2.1&&Nat.ble (p.1+p.2.1) n)&&zdi n r
theorem zgj{n:Nat}:∀{L:List (Nat×Nat×Value)},zdi n L=true→qaj n L
 | [],_=>fun _ h=>nomatch h
 |p::r,h=>by
  simp only[zdi,bH]at h
  intro q hq
  rcases aL.1 hq with rfl|hq
  ·exact⟨gJ h.1.1,bU h.1.2⟩
  ·exact zgj h.2 q hq
theorem zqc(cs:List Value)(off:Nat)(vs:List Value)(h:off+vs.length≤cs.length):(over cs off vs).length=cs.length:=by
 simp[over];omega
theorem zul{place:Nat→Option (Nat×Nat)}:∀(L:List (Nat×Nat×Value)) (ps:List (Nat×Value)) (z:Array Value),ps.length=L.length→(∀(j:Nat) p q,ps[j]? =some p→L[j]? =some q→place p.1=some (q.1,q.2.1)∧p.2=q.2.2)→qaj z.size L→
  Instr.fill place z ps=some (zek z.toList L).toArray:=by
 intro L
 induction L with
 |nil=>
  intro ps z h _ _
  obtain rfl:ps=[]:=by cases ps<;>simp_all
  simp[Instr.fill,zek]
 |cons q L ih=>
  intro ps z h hp hk
  match ps,h with
  |p::ps,h=>
   obtain⟨h1,h2⟩:=hp 0 p q rfl rfl
   obtain⟨k1,k2⟩:=hk q sQ
   obtain⟨pi,pv⟩:=p
   simp only at h1 h2
   subst h2
   have hfs:=qj4 q.2.2.cells.toList 0 q.1 z (by simp;omega)
   simp only[fU]at hfs
   have hz:q.2.2.cells.zipIdx.foldl (fun cs (p:Value×Nat)=>cs.setIfInBounds (q.1+p.2) p.1) z=(over z.toList q.1 q.2.2.cells.toList).toArray:=by
    rw[←hfs,gM,←Array.foldl_toList,Array.toList_zipIdx]
   simp only[Instr.fill,h1]
   rw[if_neg (by simp[k1];omega)]
   have hl:=zqc z.toList q.1 q.2.2.cells.toList (by simp;omega)
   have:=ih ps (over z.toList q.1 q.2.2.cells.toList).toArray (by simpa using h) (fun j p' q' hj hj'=>hp (j+1) p' q' (by simpa using hj) (by simpa using hj')) (fun p' hp'=>by
    have:=hk p' (by simp[hp'])
    simp only[aI]
    rw[hl]
    simpa using this)
   rw[hz,this]
   rfl
def qan(P:Program)(fs:List Field)(i:Nat):Option (Nat×Nat):=match nth fs i with
 |some ⟨_,t,off,_,_,_,_⟩=>(match zcd P t with|some n=>some (off,n) |none=>none)
 |none=>none
def zqd(P:Program)(fs:List Field)(l:zav):List (Nat×Operand)→Option (List (Nat×Nat×Value))
 | []=>some []
 |(i,x)::r=>match qan P fs i,evO l x,zqd P fs l r with
  |some (off,n),some v,some L=>some ((off,n,v)::L)
  |_,_,_=>none
theorem zn6{fs:List Field}:∀{ps:List (Nat×Operand)} {L:List (Nat×Nat×Value)},zqd P fs l ps=some L→ps.length=L.length∧∀(j:Nat) p q,(ps.map fun p=>(p.1,ev l p.2))[j]? =some p→L[j]? =some q→qan P fs p.1=some (q.1,q.2.1)∧p.2=q.2.2
 | [],L,h=>by simp only[zqd,cO]at h;subst h;simp
 |(i,x)::r,L,h=>by
  simp only[zqd]at h
  split at h
  ·rename_i off n v L' h1 h2 h3
   simp only[cO]at h
   subst h
   obtain⟨a,b⟩:=zn6 h3
   refine⟨by simp[a],fun j p q hp hq=>?_⟩
   cases j with
   |zero=>
    simp only[bG,List.getElem?_cons_zero,cO]at hp hq
    subst hp;subst hq
    exact⟨h1,zar h2⟩
   |succ j=>exact b j p q (by simpa using hp) (by simpa using hq)
  ·cases h
def zuk(P:Program)(fs:List Field):Bool:=fs.all fun f=>(zcd P f.type).isSome
theorem zz9{fs:List Field}(h:zuk P fs=true)(w:World):(fs.mapM (m:=Sem) fun f=>do pure (f.offset,←sizeOf f.type)).run P w= .ok (fs.map fun f=>(f.offset,((zcd P f.type).getD 0))) w:=by
 induction fs with
 |nil=>rfl
 |cons f fs ih=>
  simp only[zuk,List.all_cons,bH]at h
  obtain⟨n,hn⟩:=cI.1 h.1
  obtain⟨q,hq,hqs⟩:=zbg hn
  rw[List.mapM_cons]
  have ih':=ih h.2
  have hsz:(sizeOf f.type).run P w= .ok n w:=by simp[sizeOf,typeInfo,hq,hqs]
  simp only[Sem.run_bind,hsz,Result.andThen_ok,Sem.run_pure,ih',bG,hn,eD]
theorem zo5{fs:Array Field}{z:Array Value}{ps:List (Nat×Operand)}{L:List (Nat×Nat×Value)}(hT:P.underlying T=some (.struct fs))(hf:zuk P fs.toList=true)(hz:(P.info? T).bind (·.zero)=some (.agg z))(hp:zqd P fs.toList l ps=some L)(hkb:zdi z.size L=true):
  OV P (.build T ps.toArray) ty l H (.agg (zek z.toList L).toArray):=ov fun _ _ _ w _=>by
 obtain⟨h1,h2⟩:=zn6 hp
 have hk:=zgj hkb
 have hzr:(zeroValue T).run P w= .ok (.agg z) w:=by
  cases hq:P.info? T with
  |none=>simp[hq]at hz
  |some i=>
   have hz':i.zero=some (.agg z):=by simpa[hq]using hz
   simp[zeroValue,typeInfo,hq,hz']
 have hm:(fs.mapM (m:=Sem) fun f=>do pure (f.offset,←sizeOf f.type)).run P w= .ok (fs.toList.map fun f=>(f.offset,((zcd P f.type).getD 0))).toArray w:=by
  have:=zz9 hf w
  rw[←gM (xs:=fs)]
  rw[List.mapM_toArray]
  change ((List.mapM (m:=Sem) (fun f:Field=>do pure (f.offset,←sizeOf f.type)) fs.toList)>>= fun r=>pure r.toArray).run P w=_
  rw[Sem.run_bind,this]
  rfl
 have hfill:=zul (place:=fun i=>((fs.toList.map fun f=>(f.offset,((zcd P f.type).getD 0))).toArray[i]?)) L (ps.map fun p=>(p.1,ev l p.2)) z (by simpa using h1) (fun j p q hp hq=>by
  obtain⟨a,b⟩:=h2 j p q hp hq
  refine⟨?_,b⟩
  unfold qan at a
  split at a
  ·rename_i nm t off e1 e2 e3 e4 hn
   rw[zp4]at hn
   split at a
   ·rename_i n hc
    simp only[cO,gU]at a
    obtain⟨rfl,rfl⟩:=a
    simp[hn,hc]
   ·cases a
  ·cases a) hk
 have hps:(ps.toArray.map fun(x:Nat×Operand)=>match x with|(i,x)=>(i,ev l x))=(ps.map fun p=>(p.1,ev l p.2)).toArray:=by simp
 simp only[execOp,hps,Instr.build,Sem.run_bind,hzr,Result.andThen_ok,run_underlying hT w,Value.cells,hm,hfill]
 rfl
variable{S:World→Prop}{t:Nat}
variable{op:Op}{listed:Array Bool}{α:Type}{l':α→zav}{H':α→World→Prop}
theorem zat(i:Nat){dst:Option Tmp}(hr0:Region.ready .any ops listed=[i]∧i<t)(hi0:nth ops.toList i=some ⟨dst,op,ty,pos,after,g⟩)(hg:okG ops l g=true)
  (h:HO P ⟨dst,op,ty,pos,after,g⟩ (zom Q) N l H l' H') (hS:∀x w,H' x w→S w) (k:∀x,HD P ops Q S t N n (listed.setIfInBounds i true) (l' x) (H' x)):HD P ops Q S t N (n+1) listed l H:=by
 unfold HD HO at*
 intro inv a w s hw
 have hi:=zei hi0
 obtain⟨hr,hlt⟩:=hr0
 have hm:i∈Region.ready .any ops listed:=by rw[hr];simp
 refine⟨fun h=>(by rw[hr]at h;cases h),fun j hj=>?_⟩
 obtain rfl:j=i:=by rw[hr]at hj;simpa using hj
 unfold wpOp
 simp only[hi]
 rw[if_pos (zkl s hg)]
 exact .inl (And.right<|h a w s hw _ fun x a' w' s' hw'=>⟨fun _=>hS x w' hw',k x (inv.set hm hlt) a' w' s' hw'⟩)
theorem ziy{S':World→Prop}(hS:∀w,S' w→S w):∀(n:Nat) (listed:Array Bool) (a:Act) (w:World),zoe P ops Q S' t n listed a w→zoe P ops Q S t n listed a w
 |0,_,_,_,h=>h
 |n+1,_,_,_,h=>⟨h.1,fun i hi=>wpOp_mono (fun a' w' h'=>⟨fun hn=>hS _ (h'.1 hn),ziy hS n _ a' w' h'.2⟩) (h.2 i hi)⟩
theorem qtt(hS:∀w,H w→S w)(k:HD P ops Q H t N n listed l H):HD P ops Q S t N n listed l H:=by
 unfold HD at*
 exact fun inv a w s hw=>ziy hS _ _ _ _ (k inv a w s hw)
variable{f:FuncId}{xs:List Operand}{tys:Array TypeId}{vs:List Value}
theorem dPu(i:Nat)(hi0:nth ops.toList i=some ⟨some d,.call ⟨.value (.func f),xs.toArray,tys⟩,ty,pos,after,g⟩)(hx:evs l xs=some vs)(hc:∀w,Hp w0 F m w→Pu P f vs.toArray w v)(k:HD P ops Q S t N n (listed.setIfInBounds i true) ((d,v)::l) (Hp w0 F m))(hr0:Region.ready .any ops listed=[i]:=by kernel_rfl)(hr1:i<t:=by decide)(hg:okG ops l g=true:=by rfl)(hok:zee N l (.call ⟨.value (.func f),xs.toArray,tys⟩) d=true:=by rfl)(hb:za7 P f=true:=by kernel_rfl)(hS:∀w,Hp w0 F m w→S w:=by intro w h;exact h):HD P ops Q S t N (n+1) listed l (Hp w0 F m):=zat i ⟨hr0,hr1⟩ hi0 hg (zfc hok hb hx hc) (fun _ w h=>hS w h) fun _=>k
section
variable{dst:Option Nat}{g:Nat×Bool}{b:Bool}
theorem qq2(_hd:(nth ops.toList g.1).bind (·.dst)=some d)(h:get l d=some (.bool b))(hb:b=true)(k:HL P ops Q N (⟨dst,op,ty,pos,after,some g⟩::rest) ((d,.bool true)::l) H):HL P ops Q N (⟨dst,op,ty,pos,after,some g⟩::rest) l H:=zd2 d _ _ h (by rw[hb]) k
theorem qq1(_hd:(nth ops.toList g.1).bind (·.dst)=some d)(h:get l d=some (.bool b))(hb:b=false)(k:HL P ops Q N (⟨dst,op,ty,pos,after,some g⟩::rest) ((d,.bool false)::l) H):HL P ops Q N (⟨dst,op,ty,pos,after,some g⟩::rest) l H:=zd2 d _ _ h (by rw[hb]) k
end
def noB(ops:List Oper)(l:zav):Option (Nat×Bool)→Bool
 |none=>false
 |some (j,want)=>match nth ops j with
  |some o=>(match o.dst with|some t=>(match get l t with|some (.bool c)=> !(c==want) |some (.tuple _)=>true|_=>false) |none=>false)
  |none=>false
section
variable{g:Nat×Bool}
end
theorem ziw{id:Nat}{r:List Oper}(hm:zjo P r=true)(h:HD P r.toArray Q (Hp w0 F m) r.length N r.length (Array.replicate r.length false) l (Hp w0 F m)):HT P (.region id r.toArray true) Q N l (Hp w0 F m):=qct r.length hm (fun _ h=>h.drew) h
theorem zeh{dst:Option Nat}(hg:okG ops l g=true)(h:HO P ⟨dst,op,ty,pos,after,g⟩ Q N l H l' H')(k:∀x,HL P ops Q N rest (l' x) (H' x)):HL P ops Q N (⟨dst,op,ty,pos,after,g⟩::rest) l H:=by
 unfold HL HO at*
 intro a w s hw
 unfold wpListIn
 rw[if_pos (zkl s hg)]
 exact(fun x=>qli x.1 x.2 N.r) (h a w s hw _ fun x a' w' s' hw'=>k x a' w' s' hw')
theorem lPu(hx:evs l xs=some vs)(hc:∀w,Hp w0 F m w→Pu P f vs.toArray w v)(k:HL P ops Q N rest ((d,v)::l) (Hp w0 F m))(hg:okG ops l g=true:=by rfl)(hok:zee N l (.call ⟨.value (.func f),xs.toArray,tys⟩) d=true:=by rfl)(hb:za7 P f=true:=by kernel_rfl):HL P ops Q N (⟨some d,.call ⟨.value (.func f),xs.toArray,tys⟩,ty,pos,after,g⟩::rest) l (Hp w0 F m):=zeh hg (zfc hok hb hx hc) fun _=>k
theorem qlx(hx:evO l x=some (.string s))(hy:evO l y=some (.int k i))(hT:P.underlying T=some .string)(hi:i≤s.size):OV P (.slice T x (some y) none none) ty l H (.string (s.extract i s.size)):=ov fun _ _ _ w _=>by
 have h:=run_slice_string_l (P:=P) w T s hT k i oQ oQ
 simp only[execOp,zar hx,bZ,fZ,zar hy,Sem.run_bind,run_sliceAt_string w T _ _ _ _ hT,h,cB]
 rfl
theorem qc0(hx:evO l x=some (.string s))(hy:evO l y=some (.int k i))(hT:P.underlying T=some .string)(hi:i≤s.size):OV P (.slice T x none (some y) none) ty l H (.string (s.extract 0 i)):=ov fun _ _ _ w _=>by
 have h:=run_slice_string_h (P:=P) w T s hT k i oQ oQ
 simp only[execOp,zar hx,bZ,fZ,zar hy,Sem.run_bind,run_sliceAt_string w T _ _ _ _ hT,h,cB]
 rfl
theorem qiy(hx:evO l x=some (.string s))(hy:evO l y=some (.int k (@OfNat.ofNat Int i _)))(hT:P.underlying T=some .string)(hi:(@OfNat.ofNat Nat i _)≤s.size):OV P (.slice T x none (some y) none) ty l H (.string (s.extract 0 (@OfNat.ofNat Nat i _))):=qc0 hx hy hT hi
theorem qbf{a b:ByteArray}(h:a.data.toList=b.data.toList):a=b:=by
 cases a;cases b;congr;exact Array.toList_inj.1 h
theorem zpd(a b:ByteArray):(a.toList==b.toList)=decide (a=b):=by
 rw[ByteArray.toList_eq,ByteArray.toList_eq,eA]
 simp only[beq_iff_eq,decide_eq_true_eq]
 exact⟨qbf,fun h=>by rw[h]⟩
def seq(a b:ByteArray):Bool:=decide (a=b)
theorem qic(a b:ByteArray):decide (a=b)=seq a b:=rfl
theorem qat{a b:ByteArray}:seq a b=true↔a=b:=by simp[seq]
theorem qle(a b:ByteArray):seq a b=(a.data.toList==b.data.toList):=by
 rw[←qic,←zpd,ByteArray.toList_eq,ByteArray.toList_eq]
theorem qpf{U:TypeId}{a b:ByteArray}(hx:evO l x=some (.string a))(hy:evO l y=some (.string b)):OV P (.binOp .eql T x y U) ty l H (.bool (seq a b)):=by
 rw[←qic,←zpd]
 exact zf5 hx hy fun _=>rfl
theorem qxl{U:TypeId}{a b:ByteArray}(hx:evO l x=some (.string a))(hy:evO l y=some (.string b)):OV P (.binOp .neq T x y U) ty l H (.bool (!seq a b)):=by
 rw[←qic,←zpd]
 exact zf5 hx hy fun _=>rfl
def zwe(a:Option Addr)(room:Bool)(k:Nat):Option Addr:=if room then a else a.map (·.add k)
theorem qr3{a:Option Addr}{c sz:Nat}(hx:evO l x=some (.slice a n c))(hy:evO l y=some (.int k i))(hT:zmi P T=some e)(he:zcd P e=some sz)(hi:i≤n):OV P (.slice T x (some y) none none) ty l H (.slice (zwe a (decide (c=i)) (i*sz)) (n - i) (c - i)):=ov fun _ _ _ w _=>by
 have hu:=zbs hT
 have hu':P.underlying T=some (.slice (P.elem T)):=by rw[hu];simp[Program.elem,hu]
 have he':P.elem T=e:=by simp[Program.elem,hu]
 obtain⟨q,hq,hqs⟩:=zbg he
 have h:=run_slice_l (P:=P) w T a n c hu' k i oQ oQ
 have hz:(sizeOf (P.elem T)).run P w= .ok sz w:=by rw[he'];simp[sizeOf,typeInfo,hq,hqs]
 simp only[execOp,zar hx,bZ,fZ,zar hy,Sem.run_bind,run_sliceAt_slice w T _ _ _ _ hu',h,hz,Result.andThen_ok,cB,sliced,zwe]
 simp[Sem.run_pure]
theorem zo9(a:ByteArray):a.data.toList.length=a.size:=by simp
attribute [irreducible] seq
end Go.Eng
