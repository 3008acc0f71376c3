/- law 33: a stream as the program has it; two streams; a stream that is great. -/
import Derived.Test.YtdkonngkbbgcgaaGreatDoorStl
namespace Go.Eng
open Go.RowKit
theorem v_neH {P : Program} {l : Slots} {H : World → Prop} {x y : Operand} {T ty yt : TypeId} {c c' : Array Value} (D : Nat) {ls : List TypeId} (hx : evO l x = some (.agg c)) (hy : evO l y = some (.agg c')) (hT : leaves P D T = some ls) (ha : oneOf P T = false) (hg : P.eqGuardType P.depth T = false) (hD : D ≤ 10000) (h1 : fitAll P ls c.toList) (h2 : fitAll P ls c'.toList) : OV P (.binOp .neq T x y yt) ty l H (.bool (!rowEq c.toList c'.toList)) :=
  v_bin hx hy fun w => by
    have he := equalIn_run (P := P) D T ls hT c.toList c'.toList Op.maxDepth w hD h1 h2
    have hof : ∀ cs : Array Value, ofCells P T cs.toList = .agg cs := fun cs => by
      unfold oneOf at ha
      unfold ofCells
      cases hu : P.underlying T with
      | none =>
        cases D with
        | zero => simp [leaves] at hT
        | succ D => simp [leaves, hu] at hT
      | some d => cases d <;> simp_all
    rw [hof, hof] at he
    have hp : (program).run P w = .ok P w := rfl
    have hgd : (eqGuard .neq T x y (.agg c) (.agg c')).run P w = .ok () w := by
      simp only [eqGuard]
      simp [hp, hg]
    rw [Sem.run_bind, hgd]
    simp only [Result.andThen_ok, binOp, Op.equal, Sem.run_bind, he]
    rfl
theorem fit_bytes {P : Program} {t : TypeId} (h : ∀ n : Int, leafFit P t (.int .u8 n) = true) : ∀ s : List UInt8, fitAll P (reps [t] s.length) (bytesV s)
  | [] => rfl
  | c :: s => ⟨h _, fit_bytes h s⟩
theorem row_bytes : ∀ a b : List UInt8, a.length = b.length → rowEq (bytesV a) (bytesV b) = decide (a = b)
  | [], [], _ => rfl
  | x :: a, y :: b, h => by
    have ih := row_bytes a b (by simpa using h)
    have e : rowEq (bytesV (x :: a)) (bytesV (y :: b)) = (decide (x = y) && rowEq (bytesV a) (bytesV b)) := by
      show (_ && _) = _
      congr 1
      by_cases e : x = y
      · subst e; simp [leafEq]
      · rw [decide_eq_false e]
        show ((x.toNat : Int) == (y.toNat : Int)) = false
        rw [beq_eq_false_iff_ne]
        exact fun h => e (UInt8.toNat_inj.1 (by omega))
    rw [e, ih, ← Bool.decide_and]
    simp
end Go.Eng
namespace Go.Proofs.YtdkonngkbbgcgaaGreatDoor
open Go.RowKit Go.Eng
set_option maxRecDepth 100000
set_option maxHeartbeats 40000000
theorem seq_ba (x y : Bys) : seq ⟨x.toArray⟩ ⟨y.toArray⟩ = decide (x = y) := by
  unfold seq
  by_cases h : x = y
  · subst h; simp
  · rw [decide_eq_false h, decide_eq_false]
    exact fun e => h (by have := congrArg (fun b => b.data.toList) e; simpa using this)
theorem lof_calls (r : Bys) (a : Option Addr) (n c : Nat) (hr : r.length = 32) (w : World) : Pu Tryz.prog 9 #[.agg (strmA r a n c)] w (.agg (strmA r a n c)) := by
  refine pu_of [_] Tryz.func9 rfl rfl ?_
  simp only [argSlots]
  have h32 := strm_32 r hr a n c
  have hbl : (bytesV r).length = 32 := by rw [bytesV_length, hr]
  (repeat first | with_reducible (first | apply t_seq | apply t_region | apply t_block | apply t_ret | apply t_skip | apply t_exit | apply l_nil | apply x_then | apply x_pass_exit | apply x_pass_ret | apply x_block_ret | apply x_block_normal | apply x_block_here | apply x_block_out rfl) | refine lAv rfl ?_ | refine l_no rfl ?_ | refine tT rfl rfl ?_ | refine tF rfl rfl ?_ | refine lT rfl rfl ?_ | refine lF rfl rfl ?_)
  refine l_boxa rfl rfl fun b1 hb1 => ?_
  (repeat first | with_reducible (first | apply t_seq | apply t_region | apply t_block | apply t_ret | apply t_skip | apply t_exit | apply l_nil | apply x_then | apply x_pass_exit | apply x_pass_ret | apply x_block_ret | apply x_block_normal | apply x_block_here | apply x_block_out rfl) | refine lAv rfl ?_ | refine l_no rfl ?_ | refine tT rfl rfl ?_ | refine tF rfl rfl ?_ | refine lT rfl rfl ?_ | refine lF rfl rfl ?_)
  refine l_alloca rfl rfl fun b2 hb2 => ?_
  (repeat first | with_reducible (first | apply t_seq | apply t_region | apply t_block | apply t_ret | apply t_skip | apply t_exit | apply l_nil | apply x_then | apply x_pass_exit | apply x_pass_ret | apply x_block_ret | apply x_block_normal | apply x_block_here | apply x_block_out rfl) | refine lAv rfl ?_ | refine l_no rfl ?_ | refine tT rfl rfl ?_ | refine tF rfl rfl ?_ | refine lT rfl rfl ?_ | refine lF rfl rfl ?_)
  refine l_w rfl (v_loadcE (xs := bytesV r) (c := (bytesV r).toArray) rfl (by rw [hbl]; rfl) (fun w' hw' => strm_root (hw'.get (b := b1) (.tail _ (.head _)))) rfl) ?_
  (repeat first | with_reducible (first | apply t_seq | apply t_region | apply t_block | apply t_ret | apply t_skip | apply t_exit | apply l_nil | apply x_then | apply x_pass_exit | apply x_pass_ret | apply x_block_ret | apply x_block_normal | apply x_block_here | apply x_block_out rfl) | refine lAv rfl ?_ | refine l_no rfl ?_ | refine tT rfl rfl ?_ | refine tF rfl rfl ?_ | refine lT rfl rfl ?_ | refine lF rfl rfl ?_)
  refine l_w rfl (v_loadp rfl rfl (.tail _ (.head _)) h32) ?_
  refine l_w rfl (v_builds (L := [(0, 32, .agg (bytesV r).toArray), (32, 1, .slice a n c)]) rfl rfl rfl rfl (by simp [okPartsB, Value.cells, hbl])) ?_
  refine l_say 7 _ (.agg (strmA r a n c)) rfl ?_ ?_
  · show Value.agg ((over (over _ 0 (bytesV r)) 32 [Value.slice a n c]).toArray) = _
    have e : ∀ z : List Value, z.length = 33 → over (over z 0 (bytesV r)) 32 [Value.slice a n c] = bytesV r ++ [Value.slice a n c] := fun z hz => by
      have h1 : over z 0 (bytesV r) = bytesV r ++ z.drop 32 := by
        unfold over; rw [hbl]; simp
      rw [h1]
      unfold over
      rw [List.take_append_of_le_length (by omega), List.take_of_length_le (by omega), List.drop_of_length_le (by simp [hbl, hz])]
      simp
    rw [e _ rfl]
  refine l_op rfl (o_storea (cs' := strmA r a n c) rfl rfl rfl (by rw [strm_size r hr]; rfl) (strm_one _ _ _ _) (by rw [strm_size r hr]; rfl)) fun _ => ?_
  (repeat first | with_reducible (first | apply t_seq | apply t_region | apply t_block | apply t_ret | apply t_skip | apply t_exit | apply l_nil | apply x_then | apply x_pass_exit | apply x_pass_ret | apply x_block_ret | apply x_block_normal | apply x_block_here | apply x_block_out rfl) | refine lAv rfl ?_ | refine l_no rfl ?_ | refine tT rfl rfl ?_ | refine tF rfl rfl ?_ | refine lT rfl rfl ?_ | refine lF rfl rfl ?_)
  exact x_pu rfl ⟨_, rfl, loada_run (by rw [strm_size r hr]; rfl) (.head _)⟩ rfl
theorem same_calls (r1 r2 : Bys) (l1 l2 : List Bys) (a1 a2 : Option Addr) (c1 c2 : Nat) (hr1 : r1.length = 32) (hr2 : r2.length = 32) (w : World) (s1 : ChL w a1 c1 l1) (s2 : ChL w a2 c2 l2) :
    Pu Tryz.prog 15 #[.agg (strmA r1 a1 l1.length c1), .agg (strmA r2 a2 l2.length c2)] w (.bool (decide (r1 = r2 ∧ l1 = l2))) := by
  refine pu_of [_, _] Tryz.func15 rfl rfl ?_
  simp only [argSlots, Nat.reduceAdd]
  have h1 := strm_32 r1 hr1 a1 l1.length c1
  have h2 := strm_32 r2 hr2 a2 l2.length c2
  have hq1 : (bytesV r1).length = 32 := by rw [bytesV_length, hr1]
  have hq2 : (bytesV r2).length = 32 := by rw [bytesV_length, hr2]
  have hm1 := s1.many
  have hm2 := s2.many
  have hre : rowEq (bytesV r1).toArray.toList (bytesV r2).toArray.toList = decide (r1 = r2) := row_bytes r1 r2 (by rw [hr1, hr2])
  have hfit : ∀ n : Int, leafFit Tryz.prog 5 (.int .u8 n) = true := fun n => rfl
  have hf1 : fitAll Tryz.prog (reps [5] 32) (bytesV r1) := by have := fit_bytes hfit r1; rwa [hr1] at this
  have hf2 : fitAll Tryz.prog (reps [5] 32) (bytesV r2) := by have := fit_bytes hfit r2; rwa [hr2] at this
  (repeat first | with_reducible (first | apply t_seq | apply t_region | apply t_block | apply t_ret | apply t_skip | apply t_exit | apply l_nil | apply x_then | apply x_pass_exit | apply x_pass_ret | apply x_block_ret | apply x_block_normal | apply x_block_here | apply x_block_out rfl) | refine lAv rfl ?_ | refine l_no rfl ?_ | refine tT rfl rfl ?_ | refine tF rfl rfl ?_ | refine lT rfl rfl ?_ | refine lF rfl rfl ?_)
  refine l_boxa rfl rfl fun b2 hb2 => ?_
  (repeat first | with_reducible (first | apply t_seq | apply t_region | apply t_block | apply t_ret | apply t_skip | apply t_exit | apply l_nil | apply x_then | apply x_pass_exit | apply x_pass_ret | apply x_block_ret | apply x_block_normal | apply x_block_here | apply x_block_out rfl) | refine lAv rfl ?_ | refine l_no rfl ?_ | refine tT rfl rfl ?_ | refine tF rfl rfl ?_ | refine lT rfl rfl ?_ | refine lF rfl rfl ?_)
  refine l_boxa rfl rfl fun b3 hb3 => ?_
  (repeat first | with_reducible (first | apply t_seq | apply t_region | apply t_block | apply t_ret | apply t_skip | apply t_exit | apply l_nil | apply x_then | apply x_pass_exit | apply x_pass_ret | apply x_block_ret | apply x_block_normal | apply x_block_here | apply x_block_out rfl) | refine lAv rfl ?_ | refine l_no rfl ?_ | refine tT rfl rfl ?_ | refine tF rfl rfl ?_ | refine lT rfl rfl ?_ | refine lF rfl rfl ?_)
  refine l_w rfl (v_loadcE (xs := bytesV r1) (c := (bytesV r1).toArray) rfl (by rw [hq1]; rfl) (fun w' hw' => strm_root (hw'.get (b := b2) (.tail _ (.head _)))) rfl) ?_
  (repeat first | with_reducible (first | apply t_seq | apply t_region | apply t_block | apply t_ret | apply t_skip | apply t_exit | apply l_nil | apply x_then | apply x_pass_exit | apply x_pass_ret | apply x_block_ret | apply x_block_normal | apply x_block_here | apply x_block_out rfl) | refine lAv rfl ?_ | refine l_no rfl ?_ | refine tT rfl rfl ?_ | refine tF rfl rfl ?_ | refine lT rfl rfl ?_ | refine lF rfl rfl ?_)
  refine l_w rfl (v_loadcE (xs := bytesV r2) (c := (bytesV r2).toArray) rfl (by rw [hq2]; rfl) (fun w' hw' => strm_root (hw'.get (b := b3) (.head _))) rfl) ?_
  refine l_w rfl (v_neH 5 (ls := reps [5] 32) rfl rfl (by kernel_rfl) (by kernel_rfl) (by kernel_rfl) (by decide) hf1 hf2) ?_
  rw [hre]
  by_cases hr : r1 = r2
  · rw [decide_eq_true hr, Bool.not_true]
    (repeat first | with_reducible (first | apply t_seq | apply t_region | apply t_block | apply t_ret | apply t_skip | apply t_exit | apply l_nil | apply x_then | apply x_pass_exit | apply x_pass_ret | apply x_block_ret | apply x_block_normal | apply x_block_here | apply x_block_out rfl) | refine lAv rfl ?_ | refine l_no rfl ?_ | refine tT rfl rfl ?_ | refine tF rfl rfl ?_ | refine lT rfl rfl ?_ | refine lF rfl rfl ?_)
    refine l_w rfl (v_loadp rfl rfl (.tail _ (.head _)) h1) ?_
    (repeat first | with_reducible (first | apply t_seq | apply t_region | apply t_block | apply t_ret | apply t_skip | apply t_exit | apply l_nil | apply x_then | apply x_pass_exit | apply x_pass_ret | apply x_block_ret | apply x_block_normal | apply x_block_here | apply x_block_out rfl) | refine lAv rfl ?_ | refine l_no rfl ?_ | refine tT rfl rfl ?_ | refine tF rfl rfl ?_ | refine lT rfl rfl ?_ | refine lF rfl rfl ?_)
    refine l_w rfl (v_loadp rfl rfl (.head _) h2) ?_
    by_cases hl : l1.length = l2.length
    · (repeat first | with_reducible (first | apply t_seq | apply t_region | apply t_block | apply t_ret | apply t_skip | apply t_exit | apply l_nil | apply x_then | apply x_pass_exit | apply x_pass_ret | apply x_block_ret | apply x_block_normal | apply x_block_here | apply x_block_out rfl) | refine lAv rfl ?_ | refine l_no rfl ?_ | refine tT rfl rfl ?_ | refine tF rfl rfl ?_ | refine lT rfl rfl ?_ | refine lF rfl rfl ?_)
      refine t_for (α := Nat) (fun i => [(2, .pointer (some ⟨b2, 0, none⟩)), (3, .pointer (some ⟨b3, 0, none⟩)), (5, .int .i64 i)]) (fun i => i ≤ l1.length ∧ l1.take i = l2.take i)
        (fun _ => [pt b3 (.cells (strmA r2 a2 l2.length c2) 38 (0, 0)), pt b2 (.cells (strmA r1 a1 l1.length c1) 38 (0, 0))]) (fun i => l1.length - i) 0 ⟨rfl, rfl, rfl, trivial⟩ ⟨Nat.zero_le _, rfl⟩ (fun w' hw' => hw') fun i ⟨hi, heq⟩ => ?_
      (repeat first | with_reducible (first | apply t_seq | apply t_region | apply t_block | apply t_ret | apply t_skip | apply t_exit | apply l_nil | apply x_then | apply x_pass_exit | apply x_pass_ret | apply x_block_ret | apply x_block_normal | apply x_block_here | apply x_block_out rfl) | refine lAv rfl ?_ | refine l_no rfl ?_ | refine tT rfl rfl ?_ | refine tF rfl rfl ?_ | refine lT rfl rfl ?_ | refine lF rfl rfl ?_)
      refine l_w rfl (v_loadp rfl rfl (.tail _ (.head _)) h1) ?_
      by_cases hi2 : i < l1.length
      · have hi3 : i < l2.length := by omega
        obtain ⟨bb1, off1, rfl, hc1⟩ := s1.at_ (by omega)
        obtain ⟨bb2, off2, rfl, hc2⟩ := s2.at_ (by omega)
        have hx1 := hc1 i hi2
        have hx2 := hc2 i hi3
        have hu1 := List.take_succ_eq_append_getElem hi2
        have hu2 := List.take_succ_eq_append_getElem hi3
        have hne : l1[i] ≠ l2[i] → l1 ≠ l2 := fun h e => h (by subst e; rfl)
        generalize l1[i] = x1 at hx1 hu1 hne
        generalize l2[i] = x2 at hx2 hu2 hne
        (repeat first | with_reducible (first | apply t_seq | apply t_region | apply t_block | apply t_ret | apply t_skip | apply t_exit | apply l_nil | apply x_then | apply x_pass_exit | apply x_pass_ret | apply x_block_ret | apply x_block_normal | apply x_block_here | apply x_block_out rfl) | refine lAv rfl ?_ | refine l_no rfl ?_ | refine tT rfl rfl ?_ | refine tF rfl rfl ?_ | refine lT rfl rfl ?_ | refine lF rfl rfl ?_)
        refine t_drawp (by kernel_rfl) ?_
        (repeat first | refine dAv [] rfl rfl rfl ?_ | refine dno [] rfl rfl rfl ?_ | refine dT [] rfl rfl rfl rfl ?_ | refine dF [] rfl rfl rfl rfl ?_)
        refine d_v [] rfl rfl (by kernel_rfl) (fun _ h => h) rfl rfl (v_loadp rfl rfl (.tail _ (.head _)) h1) ?_
        (repeat first | refine dAv [] rfl rfl rfl ?_ | refine dno [] rfl rfl rfl ?_ | refine dT [] rfl rfl rfl rfl ?_ | refine dF [] rfl rfl rfl rfl ?_)
        refine d_v [] rfl rfl (by kernel_rfl) (fun _ h => h) rfl rfl (v_load0 rfl rfl (fun h => h) hx1) ?_
        (repeat first | refine dAv [] rfl rfl rfl ?_ | refine dno [] rfl rfl rfl ?_ | refine dT [] rfl rfl rfl rfl ?_ | refine dF [] rfl rfl rfl rfl ?_)
        refine d_v [] rfl rfl (by kernel_rfl) (fun _ h => h) rfl rfl (v_loadp rfl rfl (.head _) h2) ?_
        (repeat first | refine dAv [] rfl rfl rfl ?_ | refine dno [] rfl rfl rfl ?_ | refine dT [] rfl rfl rfl rfl ?_ | refine dF [] rfl rfl rfl rfl ?_)
        refine d_v [] rfl rfl (by kernel_rfl) (fun _ h => h) rfl rfl (v_load0 rfl rfl (fun h => h) hx2) ?_
        (repeat first | refine dAv [] rfl rfl rfl ?_ | refine dno [] rfl rfl rfl ?_ | refine dT [] rfl rfl rfl rfl ?_ | refine dF [] rfl rfl rfl rfl ?_)
        refine d_end (by kernel_rfl) ?_
        rw [seq_ba]
        by_cases hx : x1 = x2
        · rw [decide_eq_true hx, Bool.not_true]
          (repeat first | with_reducible (first | apply t_seq | apply t_region | apply t_block | apply t_ret | apply t_skip | apply t_exit | apply l_nil | apply x_then | apply x_pass_exit | apply x_pass_ret | apply x_block_ret | apply x_block_normal | apply x_block_here | apply x_block_out rfl) | refine lAv rfl ?_ | refine l_no rfl ?_ | refine tT rfl rfl ?_ | refine tF rfl rfl ?_ | refine lT rfl rfl ?_ | refine lF rfl rfl ?_)
          exact x_round (i + 1) ⟨rfl, rfl, rfl, trivial⟩ ⟨hi2, by rw [hu1, hu2, heq, hx]⟩ (fun w' hw' => hw') (by omega)
        · rw [decide_eq_false hx, Bool.not_false]
          (repeat first | with_reducible (first | apply t_seq | apply t_region | apply t_block | apply t_ret | apply t_skip | apply t_exit | apply l_nil | apply x_then | apply x_pass_exit | apply x_pass_ret | apply x_block_ret | apply x_block_normal | apply x_block_here | apply x_block_out rfl) | refine lAv rfl ?_ | refine l_no rfl ?_ | refine tT rfl rfl ?_ | refine tF rfl rfl ?_ | refine lT rfl rfl ?_ | refine lF rfl rfl ?_)
          exact x_pu rfl rfl (by rw [decide_eq_false fun h => hne hx h.2])
      · obtain rfl : i = l1.length := by omega
        rw [List.take_length, List.take_of_length_le (by omega)] at heq
        (repeat first | with_reducible (first | apply t_seq | apply t_region | apply t_block | apply t_ret | apply t_skip | apply t_exit | apply l_nil | apply x_then | apply x_pass_exit | apply x_pass_ret | apply x_block_ret | apply x_block_normal | apply x_block_here | apply x_block_out rfl) | refine lAv rfl ?_ | refine l_no rfl ?_ | refine tT rfl rfl ?_ | refine tF rfl rfl ?_ | refine lT rfl rfl ?_ | refine lF rfl rfl ?_)
        exact x_pu rfl rfl (by rw [decide_eq_true ⟨hr, heq⟩])
    · (repeat first | with_reducible (first | apply t_seq | apply t_region | apply t_block | apply t_ret | apply t_skip | apply t_exit | apply l_nil | apply x_then | apply x_pass_exit | apply x_pass_ret | apply x_block_ret | apply x_block_normal | apply x_block_here | apply x_block_out rfl) | refine lAv rfl ?_ | refine l_no rfl ?_ | refine tT rfl rfl ?_ | refine tF rfl rfl ?_ | refine lT rfl rfl ?_ | refine lF rfl rfl ?_)
      exact x_pu rfl rfl (by rw [decide_eq_false fun h => hl (by rw [h.2])])
  · rw [decide_eq_false hr, Bool.not_false]
    (repeat first | with_reducible (first | apply t_seq | apply t_region | apply t_block | apply t_ret | apply t_skip | apply t_exit | apply l_nil | apply x_then | apply x_pass_exit | apply x_pass_ret | apply x_block_ret | apply x_block_normal | apply x_block_here | apply x_block_out rfl) | refine lAv rfl ?_ | refine l_no rfl ?_ | refine tT rfl rfl ?_ | refine tF rfl rfl ?_ | refine lT rfl rfl ?_ | refine lF rfl rfl ?_)
    exact x_pu rfl rfl (by rw [decide_eq_false fun h => hr h.1])
def greatS (l : List Bys) : Bool := decide (60 < l.length) || l.any fun s => decide (400 < s.length)
theorem great33_calls (r : Bys) (l : List Bys) (a : Option Addr) (c : Nat) (hr : r.length = 32) (hl : l.length ≤ 9223372036854775807) (w : World) (hA : StrL w a c (bas l)) : Pu Tryz.prog 5 #[.agg (strmA r a l.length c)] w (.bool (greatS l)) := by
  refine pu_of [_] Tryz.func5 rfl rfl ?_
  simp only [argSlots]
  have h32 := strm_32 r hr a l.length c
  (repeat first | with_reducible (first | apply t_seq | apply t_region | apply t_block | apply t_ret | apply t_skip | apply t_exit | apply l_nil | apply x_then | apply x_pass_exit | apply x_pass_ret | apply x_block_ret | apply x_block_normal | apply x_block_here | apply x_block_out rfl) | refine lAv rfl ?_ | refine l_no rfl ?_ | refine tT rfl rfl ?_ | refine tF rfl rfl ?_ | refine lT rfl rfl ?_ | refine lF rfl rfl ?_)
  refine l_boxa rfl rfl fun b1 hb1 => ?_
  (repeat first | with_reducible (first | apply t_seq | apply t_region | apply t_block | apply t_ret | apply t_skip | apply t_exit | apply l_nil | apply x_then | apply x_pass_exit | apply x_pass_ret | apply x_block_ret | apply x_block_normal | apply x_block_here | apply x_block_out rfl) | refine lAv rfl ?_ | refine l_no rfl ?_ | refine tT rfl rfl ?_ | refine tF rfl rfl ?_ | refine lT rfl rfl ?_ | refine lF rfl rfl ?_)
  refine l_w rfl (v_loadp rfl rfl (.head _) h32) ?_
  by_cases h12 : 60 < l.length
  · (repeat first | with_reducible (first | apply t_seq | apply t_region | apply t_block | apply t_ret | apply t_skip | apply t_exit | apply l_nil | apply x_then | apply x_pass_exit | apply x_pass_ret | apply x_block_ret | apply x_block_normal | apply x_block_here | apply x_block_out rfl) | refine lAv rfl ?_ | refine l_no rfl ?_ | refine tT rfl rfl ?_ | refine tF rfl rfl ?_ | refine lT rfl rfl ?_ | refine lF rfl rfl ?_)
    exact x_pu rfl rfl (by unfold greatS; rw [decide_eq_true h12]; rfl)
  · (repeat first | with_reducible (first | apply t_seq | apply t_region | apply t_block | apply t_ret | apply t_skip | apply t_exit | apply l_nil | apply x_then | apply x_pass_exit | apply x_pass_ret | apply x_block_ret | apply x_block_normal | apply x_block_here | apply x_block_out rfl) | refine lAv rfl ?_ | refine l_no rfl ?_ | refine tT rfl rfl ?_ | refine tF rfl rfl ?_ | refine lT rfl rfl ?_ | refine lF rfl rfl ?_)
    refine t_for (α := Nat) (fun k => [(1, .pointer (some ⟨b1, 0, none⟩)), (3, .int .i64 k)]) (fun k => k ≤ l.length ∧ (l.take k).any (fun s => decide (400 < s.length)) = false) (fun _ => [pt b1 (.cells (strmA r a l.length c) 26 (0, 0))]) (fun k => l.length - k) 0 ⟨rfl, rfl, trivial⟩ ⟨Nat.zero_le _, rfl⟩ (fun _ h => h) fun k ⟨hk, hno⟩ => ?_
    (repeat first | with_reducible (first | apply t_seq | apply t_region | apply t_block | apply t_ret | apply t_skip | apply t_exit | apply l_nil | apply x_then | apply x_pass_exit | apply x_pass_ret | apply x_block_ret | apply x_block_normal | apply x_block_here | apply x_block_out rfl) | refine lAv rfl ?_ | refine l_no rfl ?_ | refine tT rfl rfl ?_ | refine tF rfl rfl ?_ | refine lT rfl rfl ?_ | refine lF rfl rfl ?_)
    refine l_w rfl (v_loadp rfl rfl (.head _) h32) ?_
    by_cases hk' : k < l.length
    · obtain ⟨b, off, rfl, hcell⟩ := hA.at_ (by rw [bas_len]; omega)
      have hck := hcell k (by rw [bas_len]; exact hk')
      rw [bas_at hk'] at hck
      have htk : (l.take (k + 1)).any (fun s => decide (400 < s.length)) = decide (400 < l[k].length) := by
        rw [List.take_succ_eq_append_getElem hk', List.any_append, hno]; simp
      have hany : 400 < l[k].length → l.any (fun s => decide (400 < s.length)) = true := fun h => List.any_eq_true.2 ⟨_, List.getElem_mem hk', by simpa using h⟩
      generalize l[k] = x at hck htk hany
      have hxl := ba_len x
      (repeat first | with_reducible (first | apply t_seq | apply t_region | apply t_block | apply t_ret | apply t_skip | apply t_exit | apply l_nil | apply x_then | apply x_pass_exit | apply x_pass_ret | apply x_block_ret | apply x_block_normal | apply x_block_here | apply x_block_out rfl) | refine lAv rfl ?_ | refine l_no rfl ?_ | refine tT rfl rfl ?_ | refine tF rfl rfl ?_ | refine lT rfl rfl ?_ | refine lF rfl rfl ?_)
      refine l_w rfl (v_loadp rfl rfl (.head _) h32) ?_
      (repeat first | with_reducible (first | apply t_seq | apply t_region | apply t_block | apply t_ret | apply t_skip | apply t_exit | apply l_nil | apply x_then | apply x_pass_exit | apply x_pass_ret | apply x_block_ret | apply x_block_normal | apply x_block_here | apply x_block_out rfl) | refine lAv rfl ?_ | refine l_no rfl ?_ | refine tT rfl rfl ?_ | refine tF rfl rfl ?_ | refine lT rfl rfl ?_ | refine lF rfl rfl ?_)
      refine l_w rfl (v_load0 rfl rfl (fun h => h) hck) ?_
      (repeat first | with_reducible (first | apply t_seq | apply t_region | apply t_block | apply t_ret | apply t_skip | apply t_exit | apply l_nil | apply x_then | apply x_pass_exit | apply x_pass_ret | apply x_block_ret | apply x_block_normal | apply x_block_here | apply x_block_out rfl) | refine lAv rfl ?_ | refine l_no rfl ?_ | refine tT rfl rfl ?_ | refine tF rfl rfl ?_ | refine lT rfl rfl ?_ | refine lF rfl rfl ?_)
      by_cases h4 : 400 < x.length
      · (repeat first | with_reducible (first | apply t_seq | apply t_region | apply t_block | apply t_ret | apply t_skip | apply t_exit | apply l_nil | apply x_then | apply x_pass_exit | apply x_pass_ret | apply x_block_ret | apply x_block_normal | apply x_block_here | apply x_block_out rfl) | refine lAv rfl ?_ | refine l_no rfl ?_ | refine tT rfl rfl ?_ | refine tF rfl rfl ?_ | refine lT rfl rfl ?_ | refine lF rfl rfl ?_)
        refine x_pu rfl rfl ?_
        unfold greatS
        rw [hany h4, Bool.or_true]
      · (repeat first | with_reducible (first | apply t_seq | apply t_region | apply t_block | apply t_ret | apply t_skip | apply t_exit | apply l_nil | apply x_then | apply x_pass_exit | apply x_pass_ret | apply x_block_ret | apply x_block_normal | apply x_block_here | apply x_block_out rfl) | refine lAv rfl ?_ | refine l_no rfl ?_ | refine tT rfl rfl ?_ | refine tF rfl rfl ?_ | refine lT rfl rfl ?_ | refine lF rfl rfl ?_)
        exact x_round (k + 1) ⟨rfl, rfl, trivial⟩ ⟨hk', by rw [htk]; simp; omega⟩ (fun _ h => h) (by omega)
    · obtain rfl : k = l.length := by omega
      rw [List.take_length] at hno
      (repeat first | with_reducible (first | apply t_seq | apply t_region | apply t_block | apply t_ret | apply t_skip | apply t_exit | apply l_nil | apply x_then | apply x_pass_exit | apply x_pass_ret | apply x_block_ret | apply x_block_normal | apply x_block_here | apply x_block_out rfl) | refine lAv rfl ?_ | refine l_no rfl ?_ | refine tT rfl rfl ?_ | refine tF rfl rfl ?_ | refine lT rfl rfl ?_ | refine lF rfl rfl ?_)
      refine x_pu rfl rfl ?_
      unfold greatS
      rw [hno, decide_eq_false h12]; rfl
end Go.Proofs.YtdkonngkbbgcgaaGreatDoor
