/- The document's streams (armariumref33): hashes, at, May. -/
import Derived.Test.YtdkonngkbbgcgaaGreatDoorRtn
import Derived.Test.YtdkonngkbbgcgaaGreatDoorRtf
import Derived.Test.YtdkonngkbbgcgaaGreatDoorRtg
import Derived.Test.YtdkonngkbbgcgaaGreatDoorLwa
namespace Go.Eng
open Go.RowKit
theorem v_eqH {P : Program} {l : Slots} {H : World → Prop} {x y : Operand} {T ty yt : TypeId} {c c' : Array Value} (D : Nat) {ls : List TypeId} (hx : evO l x = some (.agg c)) (hy : evO l y = some (.agg c')) (hT : leaves P D T = some ls) (ha : oneOf P T = false) (hg : P.eqGuardType P.depth T = false) (hD : D ≤ 10000) (h1 : fitAll P ls c.toList) (h2 : fitAll P ls c'.toList) : OV P (.binOp .eql T x y yt) ty l H (.bool (rowEq c.toList c'.toList)) :=
  v_bin hx hy fun w => by
    have he := equalIn_run (P := P) D T ls hT c.toList c'.toList Op.maxDepth w hD h1 h2
    have hof : ∀ cs : Array Value, ofCells P T cs.toList = .agg cs := fun cs => by
      unfold oneOf at ha
      unfold ofCells
      cases hu : P.underlying T with
      | none =>
        cases D with
        | zero => simp [leaves] at hT
        | succ D => simp [leaves, hu] at hT
      | some d => cases d <;> simp_all
    rw [hof, hof] at he
    have hp : (program).run P w = .ok P w := rfl
    have hgd : (eqGuard .eql T x y (.agg c) (.agg c')).run P w = .ok () w := by
      simp only [eqGuard]
      simp [hp, hg]
    rw [Sem.run_bind, hgd]
    simp only [Result.andThen_ok, binOp, Op.equal, Sem.run_bind, he]
    rfl
end Go.Eng
namespace Go.Proofs.YtdkonngkbbgcgaaGreatDoor
open Go.RowKit Go.Eng
set_option maxRecDepth 100000
set_option maxHeartbeats 40000000
abbrev tabVal : Value := .agg (u32V (shaK ++ shaH)).toArray
theorem tab_size : (u32V (shaK ++ shaH)).length = 72 := by rw [u32V_len]; decide
theorem bV32 {h : Bys} (hh : h.length = 32) : (bytesV h).length = 32 := by rw [bytesV_length, hh]
theorem fit32 {h : Bys} (hh : h.length = 32) : fitAll Tryz.prog (reps [5] 32) (bytesV h).toArray.toList := by
  have hfit : ∀ n : Int, leafFit Tryz.prog 5 (.int .u8 n) = true := fun n => rfl
  have := fit_bytes hfit h
  rwa [hh] at this
/-- Hashes' rows. -/
def hsV (L : List Bys) : List Value := L.flatMap bytesV
theorem hsV_len {L : List Bys} (h : ∀ x ∈ L, x.length = 32) : (hsV L).length = L.length * 32 := by
  induction L with
  | nil => rfl
  | cons x L ih =>
    have e : hsV (x :: L) = bytesV x ++ hsV L := by simp [hsV]
    rw [e, List.length_append, ih fun q hq => h q (by simp [hq]), bV32 (h x (by simp)), List.length_cons]; omega
theorem hsV_snoc (L : List Bys) (x : Bys) : hsV (L ++ [x]) = hsV L ++ bytesV x := by simp [hsV]
theorem hsV_split (A : List Bys) (x : Bys) (B : List Bys) : hsV (A ++ x :: B) = hsV A ++ (bytesV x ++ hsV B) := by simp [hsV]
theorem hsV_at {L : List Bys} (h : ∀ x ∈ L, x.length = 32) {i : Nat} (hi : i < L.length) {j : Nat} (hj : j < 32) : (hsV L)[i * 32 + j]? = (bytesV L[i])[j]? := by
  have hs : L.take i ++ (L[i] :: L.drop (i + 1)) = L := by rw [List.getElem_cons_drop, List.take_append_drop]
  have hl : (hsV (L.take i)).length = i * 32 := by
    rw [hsV_len fun x hx => h x (List.mem_of_mem_take hx), List.length_take, Nat.min_eq_left (by omega)]
  have e : hsV L = hsV (L.take i) ++ (bytesV L[i] ++ hsV (L.drop (i + 1))) := by
    have := hsV_split (L.take i) L[i] (L.drop (i + 1))
    rwa [hs] at this
  rw [e, List.getElem?_append_right (by omega), hl, Nat.add_sub_cancel_left, List.getElem?_append_left (by rw [bV32 (h _ (List.getElem_mem hi))]; exact hj)]
theorem rhashes_calls (l : List Bys) (a : Option Addr) (c : Nat) (w : World) (hs : ChL w a c l) :
    Ct Tryz.prog 26 #[tabVal, .slice a l.length c] w none' (fun o : Option (Nat × Nat) => slV o l.length) (fun _ => True) (fun o => [own 23 32 o l.length (hsV (l.map shaF))]) := by
  refine ct_of [_, _] Tryz.func26 rfl rfl ?_
  simp only [argSlots, Nat.reduceAdd]
  have hm := hs.many
  (repeat first | with_reducible (first | apply t_seq | apply t_region | apply t_block | apply t_ret | apply t_skip | apply t_exit | apply l_nil | apply x_then | apply x_pass_exit | apply x_pass_ret | apply x_block_ret | apply x_block_normal | apply x_block_here | apply x_block_out rfl) | refine lAv rfl ?_ | refine l_no rfl ?_ | refine tT rfl rfl ?_ | refine tF rfl rfl ?_ | refine lT rfl rfl ?_ | refine lF rfl rfl ?_)
  refine l_boxa rfl rfl fun b2 hb2 => ?_
  (repeat first | with_reducible (first | apply t_seq | apply t_region | apply t_block | apply t_ret | apply t_skip | apply t_exit | apply l_nil | apply x_then | apply x_pass_exit | apply x_pass_ret | apply x_block_ret | apply x_block_normal | apply x_block_here | apply x_block_out rfl) | refine lAv rfl ?_ | refine l_no rfl ?_ | refine tT rfl rfl ?_ | refine tF rfl rfl ?_ | refine lT rfl rfl ?_ | refine lF rfl rfl ?_)
  refine t_imp (m' := [own 23 32 none 0 (hsV ((l.take 0).map shaF)), pt b2 (.cells (u32V (shaK ++ shaH)).toArray 33 (0, 0))]) (fun w' hw' => hp_nil1 _ _ hw') ?_
  refine t_for (α := Nat × Option (Nat × Nat)) (fun y => [(1, .slice a l.length c), (2, .pointer (some ⟨b2, 0, none⟩)), (5, slV y.2 y.1), (6, .int .i64 y.1)]) (fun y => y.1 ≤ l.length)
    (fun y => [own 23 32 y.2 y.1 (hsV ((l.take y.1).map shaF)), pt b2 (.cells (u32V (shaK ++ shaH)).toArray 33 (0, 0))]) (fun y => l.length - y.1) (0, none) ⟨rfl, rfl, rfl, rfl, trivial⟩ (Nat.zero_le _) (fun w' hw' => hw') fun ⟨i, o⟩ hi => ?_
  simp only at hi ⊢
  by_cases hi2 : i < l.length
  · obtain ⟨b, off, rfl, hat⟩ := hs.at_ (by omega)
    have hci := hat i hi2
    have hlo := hs.long l[i] (List.getElem_mem hi2)
    have hup : hsV ((l.take (i + 1)).map shaF) = hsV ((l.take i).map shaF) ++ bytesV (shaF l[i]) := by rw [List.take_succ_eq_append_getElem hi2, List.map_append, List.map_singleton, hsV_snoc]
    have hsl := shaF_len l[i]
    generalize l[i] = s at hci hlo hup hsl
    (repeat first | with_reducible (first | apply t_seq | apply t_region | apply t_block | apply t_ret | apply t_skip | apply t_exit | apply l_nil | apply x_then | apply x_pass_exit | apply x_pass_ret | apply x_block_ret | apply x_block_normal | apply x_block_here | apply x_block_out rfl) | refine lAv rfl ?_ | refine l_no rfl ?_ | refine tT rfl rfl ?_ | refine tF rfl rfl ?_ | refine lT rfl rfl ?_ | refine lF rfl rfl ?_)
    refine t_drawm [1] 10 rfl rfl (by kernel_rfl) ?_
    (repeat first | refine dAv [1, 5] rfl rfl rfl ?_ | refine dno [1, 5] rfl rfl rfl ?_ | refine dT [1, 5] rfl rfl rfl rfl ?_ | refine dF [1, 5] rfl rfl rfl rfl ?_)
    refine d_v [5] rfl rfl (by kernel_rfl) (fun _ h => by first | exact h | exact Hp.sub h (.cons _ (.refl _)) | exact Hp.sub h (.cons _ (.cons _ (.refl _))) | exact Hp.sub h (.cons _ (.cons _ (.cons _ (.refl _)))) | exact Hp.sub h (.cons _ (.cons _ (.cons _ (.cons _ (.refl _))))) | exact Hp.sub h (.cons _ (.cons _ (.cons _ (.cons _ (.cons _ (.refl _)))))) | exact Hp.sub h (.cons _ (.cons _ (.cons _ (.cons _ (.cons _ (.cons _ (.refl _)))))))) rfl rfl (v_loada rfl (by rw [List.size_toArray, tab_size]; rfl) (.head _)) ?_
    (repeat first | refine dAv [5] rfl rfl rfl ?_ | refine dno [5] rfl rfl rfl ?_ | refine dT [5] rfl rfl rfl rfl ?_ | refine dF [5] rfl rfl rfl rfl ?_)
    refine d_v [] rfl rfl (by kernel_rfl) (fun _ h => by first | exact h | exact Hp.sub h (.cons _ (.refl _)) | exact Hp.sub h (.cons _ (.cons _ (.refl _))) | exact Hp.sub h (.cons _ (.cons _ (.cons _ (.refl _)))) | exact Hp.sub h (.cons _ (.cons _ (.cons _ (.cons _ (.refl _))))) | exact Hp.sub h (.cons _ (.cons _ (.cons _ (.cons _ (.cons _ (.refl _)))))) | exact Hp.sub h (.cons _ (.cons _ (.cons _ (.cons _ (.cons _ (.cons _ (.refl _)))))))) rfl rfl (v_load rfl rfl (fun w' hw' => hw'.old (fun h => h) hci)) ?_
    refine d_opg 6 ⟨by kernel_rfl, by decide⟩ rfl rfl (o_pure rfl (by kernel_rfl) rfl (fun w1 hw1 => with_calls s (by omega) w1)) (fun _ _ h => by first | exact h | exact Hp.sub h (.cons _ (.refl _)) | exact Hp.sub h (.cons _ (.cons _ (.refl _))) | exact Hp.sub h (.cons _ (.cons _ (.cons _ (.refl _)))) | exact Hp.sub h (.cons _ (.cons _ (.cons _ (.cons _ (.refl _))))) | exact Hp.sub h (.cons _ (.cons _ (.cons _ (.cons _ (.cons _ (.refl _)))))) | exact Hp.sub h (.cons _ (.cons _ (.cons _ (.cons _ (.cons _ (.cons _ (.refl _)))))))) fun _ => ?_
    (repeat first | refine dAv [] rfl rfl rfl ?_ | refine dno [] rfl rfl rfl ?_ | refine dT [] rfl rfl rfl rfl ?_ | refine dF [] rfl rfl rfl rfl ?_)
    refine d_opg 7 ⟨by kernel_rfl, by decide⟩ rfl rfl (o_buildslice (L := [(0, 32, .agg (bytesV (shaF s)).toArray)]) rfl rfl rfl rfl rfl (okParts_one (by rw [List.size_toArray, bV32 hsl]) (by decide))) (fun _ _ h => by first | exact h | exact Hp.sub h (.cons _ (.refl _)) | exact Hp.sub h (.cons _ (.cons _ (.refl _))) | exact Hp.sub h (.cons _ (.cons _ (.cons _ (.refl _)))) | exact Hp.sub h (.cons _ (.cons _ (.cons _ (.cons _ (.refl _))))) | exact Hp.sub h (.cons _ (.cons _ (.cons _ (.cons _ (.cons _ (.refl _)))))) | exact Hp.sub h (.cons _ (.cons _ (.cons _ (.cons _ (.cons _ (.cons _ (.refl _)))))))) fun ⟨bq, hbq⟩ => ?_
    (repeat first | refine dAv [] rfl rfl rfl ?_ | refine dno [] rfl rfl rfl ?_ | refine dT [] rfl rfl rfl rfl ?_ | refine dF [] rfl rfl rfl rfl ?_)
    refine d_opg 8 ⟨by kernel_rfl, by decide⟩ rfl rfl (ho_perm (bring1 _ _ _) (o_append (news := bytesV (shaF s)) rfl rfl rfl rfl rfl rfl (by rw [bV32 hsl]) (bytesV_one _) (by omega) (fun w' hw' j v hj => by rw [add_at, Nat.zero_add]; refine own_rd (hw'.item _ (.tail _ (.head _))).1 j v ?_; rw [build_one (by rw [zerosL, List.length_map, List.length_range, bV32 hsl])]; exact hj))) (fun _ _ h => by first | exact h | exact Hp.sub h (.cons _ (.refl _)) | exact Hp.sub h (.cons _ (.cons _ (.refl _))) | exact Hp.sub h (.cons _ (.cons _ (.cons _ (.refl _)))) | exact Hp.sub h (.cons _ (.cons _ (.cons _ (.cons _ (.refl _))))) | exact Hp.sub h (.cons _ (.cons _ (.cons _ (.cons _ (.cons _ (.refl _)))))) | exact Hp.sub h (.cons _ (.cons _ (.cons _ (.cons _ (.cons _ (.cons _ (.refl _)))))))) fun o' => ?_
    (repeat first | refine dAv [] rfl rfl rfl ?_ | refine dno [] rfl rfl rfl ?_ | refine dT [] rfl rfl rfl rfl ?_ | refine dF [] rfl rfl rfl rfl ?_)
    refine d_end (by kernel_rfl) ?_
    (repeat first | with_reducible (first | apply t_seq | apply t_region | apply t_block | apply t_ret | apply t_skip | apply t_exit | apply l_nil | apply x_then | apply x_pass_exit | apply x_pass_ret | apply x_block_ret | apply x_block_normal | apply x_block_here | apply x_block_out rfl) | refine lAv rfl ?_ | refine l_no rfl ?_ | refine tT rfl rfl ?_ | refine tF rfl rfl ?_ | refine lT rfl rfl ?_ | refine lF rfl rfl ?_)
    rw [← hup]
    exact x_round (i + 1, o') ⟨rfl, rfl, rfl, rfl, trivial⟩ hi2 (fun w' hw' => hw'.pick [0, 2] rfl rfl) (by simp only; omega)
  · obtain rfl : i = l.length := by omega
    rw [List.take_length]
    (repeat first | with_reducible (first | apply t_seq | apply t_region | apply t_block | apply t_ret | apply t_skip | apply t_exit | apply l_nil | apply x_then | apply x_pass_exit | apply x_pass_ret | apply x_block_ret | apply x_block_normal | apply x_block_here | apply x_block_out rfl) | refine lAv rfl ?_ | refine l_no rfl ?_ | refine tT rfl rfl ?_ | refine tF rfl rfl ?_ | refine lT rfl rfl ?_ | refine lF rfl rfl ?_)
    exact x_ct o rfl rfl rfl trivial (.cons_cons _ (List.nil_sublist _)) (by simp [own_stable])
theorem rat_calls (L : List Bys) (h : Bys) (a : Option Addr) (c : Nat) (hL : ∀ x ∈ L, x.length = 32) (hh : h.length = 32) (hn : L.length ≤ 1000000) (w : World) (hr : Rd w a (hsV L)) :
    Pu Tryz.prog 28 #[.slice a L.length c, .agg (bytesV h).toArray] w (.int .i64 (if atN L h < L.length then (atN L h : Int) else -1)) := by
  refine pu_of [_, _] Tryz.func28 rfl rfl ?_
  simp only [argSlots, Nat.reduceAdd]
  have hbl := bV32 hh
  (repeat first | with_reducible (first | apply t_seq | apply t_region | apply t_block | apply t_ret | apply t_skip | apply t_exit | apply l_nil | apply x_then | apply x_pass_exit | apply x_pass_ret | apply x_block_ret | apply x_block_normal | apply x_block_here | apply x_block_out rfl) | refine lAv rfl ?_ | refine l_no rfl ?_ | refine tT rfl rfl ?_ | refine tF rfl rfl ?_ | refine lT rfl rfl ?_ | refine lF rfl rfl ?_)
  refine l_boxa rfl rfl fun b3 hb3 => ?_
  (repeat first | with_reducible (first | apply t_seq | apply t_region | apply t_block | apply t_ret | apply t_skip | apply t_exit | apply l_nil | apply x_then | apply x_pass_exit | apply x_pass_ret | apply x_block_ret | apply x_block_normal | apply x_block_here | apply x_block_out rfl) | refine lAv rfl ?_ | refine l_no rfl ?_ | refine tT rfl rfl ?_ | refine tF rfl rfl ?_ | refine lT rfl rfl ?_ | refine lF rfl rfl ?_)
  refine t_for (α := Nat) (fun i => [(0, .slice a L.length c), (3, .pointer (some ⟨b3, 0, none⟩)), (5, .int .i64 i)]) (fun i => i ≤ L.length ∧ ¬ atN L h < i)
    (fun i => [pt b3 (.cells (bytesV h).toArray 23 (0, 0))]) (fun i => L.length - i) 0 ⟨rfl, rfl, rfl, trivial⟩ ⟨Nat.zero_le _, by omega⟩ (fun w' hw' => hw') fun i ⟨hi, hno⟩ => ?_
  by_cases hi2 : i < L.length
  · have hlen := hsV_len hL
    obtain ⟨b, off, rfl, hat⟩ := hr.at_ (fun e => by rw [e] at hlen; simp at hlen; omega)
    have hLi := hL L[i] (List.getElem_mem hi2)
    have hrow : w.rangeAt b (off + i * 32) (bytesV L[i]) := fun j v hj => by
      have h32 : j < 32 := by have := (List.getElem?_eq_some_iff.1 hj).1; rwa [bV32 hLi] at this
      rw [Nat.add_assoc]
      exact hat _ _ (by rw [hsV_at hL hi2 h32]; exact hj)
    have hre : rowEq (bytesV L[i]).toArray.toList (bytesV h).toArray.toList = decide (L[i] = h) := row_bytes _ _ (by rw [hLi, hh])
    have hlt := at_lt L h (i + 1) (by omega)
    have hlt0 := at_lt L h i (by omega)
    have hmem : h ∈ L.take (i + 1) ↔ h ∈ L.take i ∨ L[i] = h := by
      rw [List.take_succ_eq_append_getElem hi2, List.mem_append, List.mem_singleton]
      constructor
      · rintro (h1 | h1)
        · exact .inl h1
        · exact .inr h1.symm
      · rintro (h1 | h1)
        · exact .inl h1
        · exact .inr h1.symm
    generalize L[i] = x at hLi hrow hre hmem
    have hbx := bV32 hLi
    (repeat first | with_reducible (first | apply t_seq | apply t_region | apply t_block | apply t_ret | apply t_skip | apply t_exit | apply l_nil | apply x_then | apply x_pass_exit | apply x_pass_ret | apply x_block_ret | apply x_block_normal | apply x_block_here | apply x_block_out rfl) | refine lAv rfl ?_ | refine l_no rfl ?_ | refine tT rfl rfl ?_ | refine tF rfl rfl ?_ | refine lT rfl rfl ?_ | refine lF rfl rfl ?_)
    refine t_drawp (by kernel_rfl) ?_
    (repeat first | refine dAv [3] rfl rfl rfl ?_ | refine dno [3] rfl rfl rfl ?_ | refine dT [3] rfl rfl rfl rfl ?_ | refine dF [3] rfl rfl rfl rfl ?_)
    refine d_v [4] rfl rfl (by kernel_rfl) (fun _ h => by first | exact h | exact Hp.sub h (.cons _ (.refl _)) | exact Hp.sub h (.cons _ (.cons _ (.refl _))) | exact Hp.sub h (.cons _ (.cons _ (.cons _ (.refl _)))) | exact Hp.sub h (.cons _ (.cons _ (.cons _ (.cons _ (.refl _))))) | exact Hp.sub h (.cons _ (.cons _ (.cons _ (.cons _ (.cons _ (.refl _)))))) | exact Hp.sub h (.cons _ (.cons _ (.cons _ (.cons _ (.cons _ (.cons _ (.refl _)))))))) rfl rfl (v_loadc (xs := bytesV x) rfl (by rw [hbx]; rfl) (fun w' hw' => rangeAt_old hrow (fun h => h) hw')) ?_
    refine d_v [] rfl rfl (by kernel_rfl) (fun _ h => by first | exact h | exact Hp.sub h (.cons _ (.refl _)) | exact Hp.sub h (.cons _ (.cons _ (.refl _))) | exact Hp.sub h (.cons _ (.cons _ (.cons _ (.refl _)))) | exact Hp.sub h (.cons _ (.cons _ (.cons _ (.cons _ (.refl _))))) | exact Hp.sub h (.cons _ (.cons _ (.cons _ (.cons _ (.cons _ (.refl _)))))) | exact Hp.sub h (.cons _ (.cons _ (.cons _ (.cons _ (.cons _ (.cons _ (.refl _)))))))) rfl rfl (v_loada rfl (by rw [List.size_toArray, hbl]; rfl) (.head _)) ?_
    refine d_v [] rfl rfl (by kernel_rfl) (fun _ h => by first | exact h | exact Hp.sub h (.cons _ (.refl _)) | exact Hp.sub h (.cons _ (.cons _ (.refl _))) | exact Hp.sub h (.cons _ (.cons _ (.cons _ (.refl _)))) | exact Hp.sub h (.cons _ (.cons _ (.cons _ (.cons _ (.refl _))))) | exact Hp.sub h (.cons _ (.cons _ (.cons _ (.cons _ (.cons _ (.refl _)))))) | exact Hp.sub h (.cons _ (.cons _ (.cons _ (.cons _ (.cons _ (.cons _ (.refl _)))))))) rfl rfl (v_eqH 5 (ls := reps [5] 32) rfl rfl (by kernel_rfl) (by kernel_rfl) (by kernel_rfl) (by decide) (fit32 hLi) (fit32 hh)) ?_
    rw [hre]
    (repeat first | refine dAv [] rfl rfl rfl ?_ | refine dno [] rfl rfl rfl ?_ | refine dT [] rfl rfl rfl rfl ?_ | refine dF [] rfl rfl rfl rfl ?_)
    refine d_end (by kernel_rfl) ?_
    by_cases he : x = h
    · have hi1 : atN L h = i := by
        have := hlt.2 (hmem.2 (.inr he)); omega
      rw [hi1, if_pos hi2]
      (repeat first | with_reducible (first | apply t_seq | apply t_region | apply t_block | apply t_ret | apply t_skip | apply t_exit | apply l_nil | apply x_then | apply x_pass_exit | apply x_pass_ret | apply x_block_ret | apply x_block_normal | apply x_block_here | apply x_block_out rfl) | refine lAv rfl ?_ | refine l_no rfl ?_ | refine tT rfl rfl ?_ | refine tF rfl rfl ?_ | refine lT rfl rfl ?_ | refine lF rfl rfl ?_)
      exact x_pu rfl rfl rfl
    · have hi1 : ¬ atN L h < i + 1 := fun h1 => by
        rcases hmem.1 (hlt.1 h1) with h2 | h2
        · exact hno (hlt0.2 h2)
        · exact he h2
      (repeat first | with_reducible (first | apply t_seq | apply t_region | apply t_block | apply t_ret | apply t_skip | apply t_exit | apply l_nil | apply x_then | apply x_pass_exit | apply x_pass_ret | apply x_block_ret | apply x_block_normal | apply x_block_here | apply x_block_out rfl) | refine lAv rfl ?_ | refine l_no rfl ?_ | refine tT rfl rfl ?_ | refine tF rfl rfl ?_ | refine lT rfl rfl ?_ | refine lF rfl rfl ?_)
      exact x_round (i + 1) ⟨rfl, rfl, rfl, trivial⟩ ⟨hi2, hi1⟩ (fun w' hw' => hw') (by omega)
  · obtain rfl : i = L.length := by omega
    rw [if_neg hno]
    (repeat first | with_reducible (first | apply t_seq | apply t_region | apply t_block | apply t_ret | apply t_skip | apply t_exit | apply l_nil | apply x_then | apply x_pass_exit | apply x_pass_ret | apply x_block_ret | apply x_block_normal | apply x_block_here | apply x_block_out rfl) | refine lAv rfl ?_ | refine l_no rfl ?_ | refine tT rfl rfl ?_ | refine tF rfl rfl ?_ | refine lT rfl rfl ?_ | refine lF rfl rfl ?_)
    exact x_pu rfl rfl rfl
end Go.Proofs.YtdkonngkbbgcgaaGreatDoor
