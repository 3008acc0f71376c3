/- The document's streams (armariumref33): whether a stream may be. -/
import Derived.Test.YtdkonngkbbgcgaaGreatDoorRto
namespace Go.Proofs.YtdkonngkbbgcgaaGreatDoor
open Go.RowKit Go.Eng
set_option maxRecDepth 100000
set_option maxHeartbeats 40000000
theorem kF_get (l : List Bys) {j : Nat} (hj : j < l.length) (h : j < ((l.map shaF).zip (ksF l)).length) : ((l.map shaF).zip (ksF l))[j] = (shaF l[j], kF l[j]) := by
  rw [List.getElem_zip]
  simp [ksF, kF]
theorem zip_len (l : List Bys) : ((l.map shaF).zip (ksF l)).length = l.length := by simp [ksF]
theorem mayR_eq (r : Bys) (l : List Bys) : mayF ⟨r, l⟩ = mayR (l.map shaF) (ksF l) := by
  unfold mayF
  exact may_same _ _ (by simp [ksF])
theorem mayR_many {r : Bys} {l : List Bys} (h : 512 < l.length) : mayF ⟨r, l⟩ = false := by
  rw [mayR_eq]
  unfold mayR
  rw [decide_eq_false (by rw [List.length_map]; omega), Bool.false_and]
theorem mayR_no {r : Bys} {l : List Bys} {i : Nat} (hi : i < l.length) (h : refOk (l.map shaF) i (shaF l[i], kF l[i]) = false) : mayF ⟨r, l⟩ = false := by
  rw [mayR_eq]
  unfold mayR
  cases hb : allFrom (refOk (l.map shaF)) 0 ((l.map shaF).zip (ksF l)) with
  | false => rw [Bool.and_false]
  | true =>
    have := all_at _ _ hb i (by rw [zip_len]; exact hi)
    rw [Nat.zero_add, kF_get l hi, h] at this
    cases this
theorem mayR_yes {r : Bys} {l : List Bys} (h2 : l.length ≤ 512) (h : ∀ j (hj : j < l.length), refOk (l.map shaF) j (shaF l[j], kF l[j]) = true) : mayF ⟨r, l⟩ = true := by
  rw [mayR_eq]
  unfold mayR
  rw [decide_eq_true (by rw [List.length_map]; exact h2), Bool.true_and]
  refine all_of _ _ fun j hj => ?_
  have hj' : j < l.length := by rw [zip_len] at hj; exact hj
  rw [Nat.zero_add, kF_get l hj']
  exact h j hj'
def kidR (hs : List Bys) (i : Nat) (h : Bys) : Prop := atN hs h = hs.length ∨ atN hs h < i
theorem ref_yes {hs : List Bys} {i : Nat} {h : Bys} {L : List Bys} (h1 : atN hs h = i) (h2 : ∀ x ∈ L, kidR hs i x) : refOk hs i (h, some L) = true := by
  unfold refOk
  simp only [Bool.and_eq_true, decide_eq_true_eq, List.all_eq_true, Bool.or_eq_true]
  exact ⟨h1, h2⟩
theorem ref_no1 {hs : List Bys} {i : Nat} {h : Bys} {L : List Bys} (h1 : atN hs h ≠ i) : refOk hs i (h, some L) = false := by
  unfold refOk
  simp only [decide_eq_false h1, Bool.false_and]
theorem ref_no2 {hs : List Bys} {i : Nat} {h x : Bys} {L : List Bys} (hx : x ∈ L) (h1 : ¬ kidR hs i x) : refOk hs i (h, some L) = false := by
  cases hb : refOk hs i (h, some L) with
  | false => rfl
  | true =>
    exfalso
    unfold refOk at hb
    simp only [Bool.and_eq_true, decide_eq_true_eq, List.all_eq_true, Bool.or_eq_true] at hb
    exact h1 (hb.2 x hx)
theorem rat_calls2 (L : List Bys) (h : Bys) (a : Option Addr) (n c : Nat) (hLn : L.length = n) (hL : ∀ x ∈ L, x.length = 32) (hh : h.length = 32) (hn : n ≤ 1000000) (w : World) (hr : Rd w a (hsV L)) :
    Pu Tryz.prog 28 #[.slice a n c, .agg (bytesV h).toArray] w (.int .i64 (if atN L h < n then (atN L h : Int) else -1)) := by
  subst hLn
  exact rat_calls L h a c hL hh hn w hr
theorem rmay33_calls (r : Bys) (l : List Bys) (a : Option Addr) (c : Nat) (hr : r.length = 32) (w : World) (hs : ChL w a c l) :
    Pu Tryz.prog 10 #[.agg (strmA r a l.length c), tabVal] w (.bool (mayF ⟨r, l⟩)) := by
  refine pu_of [_, _] Tryz.func10 rfl rfl ?_
  simp only [argSlots, Nat.reduceAdd]
  have h32 := strm_32 r hr a l.length c
  have hm := hs.many
  (repeat first | with_reducible (first | apply t_seq | apply t_region | apply t_block | apply t_ret | apply t_skip | apply t_exit | apply l_nil | apply x_then | apply x_pass_exit | apply x_pass_ret | apply x_block_ret | apply x_block_normal | apply x_block_here | apply x_block_out rfl) | refine lAv rfl ?_ | refine l_no rfl ?_ | refine tT rfl rfl ?_ | refine tF rfl rfl ?_ | refine lT rfl rfl ?_ | refine lF rfl rfl ?_)
  refine l_boxa rfl rfl fun b2 hb2 => ?_
  (repeat first | with_reducible (first | apply t_seq | apply t_region | apply t_block | apply t_ret | apply t_skip | apply t_exit | apply l_nil | apply x_then | apply x_pass_exit | apply x_pass_ret | apply x_block_ret | apply x_block_normal | apply x_block_here | apply x_block_out rfl) | refine lAv rfl ?_ | refine l_no rfl ?_ | refine tT rfl rfl ?_ | refine tF rfl rfl ?_ | refine lT rfl rfl ?_ | refine lF rfl rfl ?_)
  refine l_boxa rfl rfl fun b3 hb3 => ?_
  (repeat first | with_reducible (first | apply t_seq | apply t_region | apply t_block | apply t_ret | apply t_skip | apply t_exit | apply l_nil | apply x_then | apply x_pass_exit | apply x_pass_ret | apply x_block_ret | apply x_block_normal | apply x_block_here | apply x_block_out rfl) | refine lAv rfl ?_ | refine l_no rfl ?_ | refine tT rfl rfl ?_ | refine tF rfl rfl ?_ | refine lT rfl rfl ?_ | refine lF rfl rfl ?_)
  refine l_w rfl (v_loadp rfl rfl (.tail _ (.head _)) h32) ?_
  by_cases h512 : 512 < l.length
  · rw [mayR_many h512]
    (repeat first | with_reducible (first | apply t_seq | apply t_region | apply t_block | apply t_ret | apply t_skip | apply t_exit | apply l_nil | apply x_then | apply x_pass_exit | apply x_pass_ret | apply x_block_ret | apply x_block_normal | apply x_block_here | apply x_block_out rfl) | refine lAv rfl ?_ | refine l_no rfl ?_ | refine tT rfl rfl ?_ | refine tF rfl rfl ?_ | refine lT rfl rfl ?_ | refine lF rfl rfl ?_)
    exact x_pu rfl rfl rfl
  · (repeat first | with_reducible (first | apply t_seq | apply t_region | apply t_block | apply t_ret | apply t_skip | apply t_exit | apply l_nil | apply x_then | apply x_pass_exit | apply x_pass_ret | apply x_block_ret | apply x_block_normal | apply x_block_here | apply x_block_out rfl) | refine lAv rfl ?_ | refine l_no rfl ?_ | refine tT rfl rfl ?_ | refine tF rfl rfl ?_ | refine lT rfl rfl ?_ | refine lF rfl rfl ?_)
    refine l_w rfl (v_loadp rfl rfl (.tail _ (.head _)) h32) ?_
    refine l_ctg rfl rfl (by kernel_rfl) rfl (fun w1 hw1 => rhashes_calls l a c w1 (hs.keep hw1)) fun x hx => ?_
    obtain ⟨o5, ho5⟩ : ∃ o, x = o := ⟨_, rfl⟩
    rw [ho5]
    (repeat first | with_reducible (first | apply t_seq | apply t_region | apply t_block | apply t_ret | apply t_skip | apply t_exit | apply l_nil | apply x_then | apply x_pass_exit | apply x_pass_ret | apply x_block_ret | apply x_block_normal | apply x_block_here | apply x_block_out rfl) | refine lAv rfl ?_ | refine l_no rfl ?_ | refine tT rfl rfl ?_ | refine tF rfl rfl ?_ | refine lT rfl rfl ?_ | refine lF rfl rfl ?_)
    refine t_fact (fun w' hw' => own_val (hw'.item (own 23 32 o5 l.length (hsV (l.map shaF))) (by simp)).1) fun ⟨hv, hc⟩ => ?_
    rw [hv]
    have hS32 : ∀ x ∈ l.map shaF, x.length = 32 := fun x hx => by obtain ⟨y, -, rfl⟩ := List.mem_map.1 hx; exact shaF_len y
    have hlm : (l.map shaF).length = l.length := List.length_map _
    refine t_for (α := Nat) (fun i => [(2, .pointer (some ⟨b2, 0, none⟩)), (5, .slice (slA o5) l.length (slC o5)), (6, .int .i64 i)]) (fun i => i ≤ l.length ∧ ∀ j (hj : j < l.length), j < i → refOk (l.map shaF) j (shaF l[j], kF l[j]) = true)
      (fun i => [own 23 32 o5 l.length (hsV (l.map shaF)), pt b2 (.cells (strmA r a l.length c) 26 (0, 0))]) (fun i => l.length - i) 0 ⟨rfl, rfl, rfl, trivial⟩ ⟨Nat.zero_le _, fun _ _ h => absurd h (by omega)⟩ (fun w' hw' => hw'.pick [0, 2] rfl rfl) fun i ⟨hi, hall⟩ => ?_
    by_cases hi2 : i < l.length
    · have hno : refOk (l.map shaF) i (shaF l[i], kF l[i]) = false → mayF ⟨r, l⟩ = false := mayR_no hi2
      have hgo : refOk (l.map shaF) i (shaF l[i], kF l[i]) = true → ∀ j (hj : j < l.length), j < i + 1 → refOk (l.map shaF) j (shaF l[j], kF l[j]) = true := fun h j hj hj2 => by
        by_cases e : j = i
        · subst e; exact h
        · exact hall j hj (by omega)
      obtain ⟨b, off, rfl, hat⟩ := hs.at_ (by omega)
      have hci := hat i hi2
      have hlo := hs.long l[i] (List.getElem_mem hi2)
      obtain ⟨bo, co, rfl⟩ : ∃ b c, o5 = some (b, c) := by
        cases o5 with
        | none => rw [show slC none = 0 from rfl] at hc; omega
        | some bc => exact ⟨bc.1, bc.2, rfl⟩
      have hrow : ∀ (m : List Eng.Item) w', Hp w none' m w' → own 23 32 (some (bo, co)) l.length (hsV (l.map shaF)) ∈ m → w'.rangeAt bo (0 + i * 32) (bytesV (shaF l[i])) := fun m w' hw' hm j v hj => by
        have h32 : j < 32 := by have := (List.getElem?_eq_some_iff.1 hj).1; rwa [bV32 (shaF_len _)] at this
        have := rangeAt_own (hw'.item _ hm).1 (i * 32 + j) v (by rw [hsV_at hS32 (by rw [hlm]; exact hi2) h32, List.getElem_map]; exact hj)
        rwa [Nat.zero_add] at this ⊢
      have hl32 := shaF_len l[i]
      generalize l[i] = y at hno hgo hci hlo hrow hl32
      generalize shaF y = hy at hno hgo hrow hl32
      (repeat first | with_reducible (first | apply t_seq | apply t_region | apply t_block | apply t_ret | apply t_skip | apply t_exit | apply l_nil | apply x_then | apply x_pass_exit | apply x_pass_ret | apply x_block_ret | apply x_block_normal | apply x_block_here | apply x_block_out rfl) | refine lAv rfl ?_ | refine l_no rfl ?_ | refine tT rfl rfl ?_ | refine tF rfl rfl ?_ | refine lT rfl rfl ?_ | refine lF rfl rfl ?_)
      refine l_w rfl (v_loadp rfl rfl (.tail _ (.head _)) h32) ?_
      (repeat first | with_reducible (first | apply t_seq | apply t_region | apply t_block | apply t_ret | apply t_skip | apply t_exit | apply l_nil | apply x_then | apply x_pass_exit | apply x_pass_ret | apply x_block_ret | apply x_block_normal | apply x_block_here | apply x_block_out rfl) | refine lAv rfl ?_ | refine l_no rfl ?_ | refine tT rfl rfl ?_ | refine tF rfl rfl ?_ | refine lT rfl rfl ?_ | refine lF rfl rfl ?_)
      refine l_w rfl (v_load rfl rfl (fun w' hw' => hw'.old (fun h => h) hci)) ?_
      refine l_ctg rfl rfl (by kernel_rfl) rfl (fun w1 hw1 => rtake12_calls y (by omega) w1) fun x hx => ?_
      obtain ⟨o8, ho8⟩ : ∃ o, x = o := ⟨_, rfl⟩
      rw [ho8]
      (repeat first | with_reducible (first | apply t_seq | apply t_region | apply t_block | apply t_ret | apply t_skip | apply t_exit | apply l_nil | apply x_then | apply x_pass_exit | apply x_pass_ret | apply x_block_ret | apply x_block_normal | apply x_block_here | apply x_block_out rfl) | refine lAv rfl ?_ | refine l_no rfl ?_ | refine tT rfl rfl ?_ | refine tF rfl rfl ?_ | refine lT rfl rfl ?_ | refine lF rfl rfl ?_)
      rcases hC : chkF y with _ | C
      · have hkn : kF y = none := by unfold kF; rw [hC]; rfl
        rw [hkn] at hno
        rw [hno rfl]
        simp only [Option.isSome_none, if_neg Bool.false_ne_true]
        (repeat first | with_reducible (first | apply t_seq | apply t_region | apply t_block | apply t_ret | apply t_skip | apply t_exit | apply l_nil | apply x_then | apply x_pass_exit | apply x_pass_ret | apply x_block_ret | apply x_block_normal | apply x_block_here | apply x_block_out rfl) | refine lAv rfl ?_ | refine l_no rfl ?_ | refine tT rfl rfl ?_ | refine tF rfl rfl ?_ | refine lT rfl rfl ?_ | refine lF rfl rfl ?_)
        refine l_alloca rfl rfl fun b8 hb8 => ?_
        refine l_op rfl (o_storea rfl rfl rfl rfl (chk_one _ _ _ _) rfl) fun _ => ?_
        (repeat first | with_reducible (first | apply t_seq | apply t_region | apply t_block | apply t_ret | apply t_skip | apply t_exit | apply l_nil | apply x_then | apply x_pass_exit | apply x_pass_ret | apply x_block_ret | apply x_block_normal | apply x_block_here | apply x_block_out rfl) | refine lAv rfl ?_ | refine l_no rfl ?_ | refine tT rfl rfl ?_ | refine tF rfl rfl ?_ | refine lT rfl rfl ?_ | refine lF rfl rfl ?_)
        exact x_pu rfl rfl rfl
      · obtain ⟨hck, hc6, hc256⟩ := chk_ok hC
        have hkF : kF y = some (C.kids.map (·.hash)) := by unfold kF; rw [hC]; rfl
        rw [hkF] at hno hgo
        simp only [Option.getD_some, Option.isSome_some, if_true]
        refine l_fact (fun w hw => (own_val (hw.item (own 75 36 o8 C.kids.length (rowsV kidV C.kids)) (by simp)).1)) fun ⟨hsl, hcap⟩ => ?_
        rw [hsl]
        (repeat first | with_reducible (first | apply t_seq | apply t_region | apply t_block | apply t_ret | apply t_skip | apply t_exit | apply l_nil | apply x_then | apply x_pass_exit | apply x_pass_ret | apply x_block_ret | apply x_block_normal | apply x_block_here | apply x_block_out rfl) | refine lAv rfl ?_ | refine l_no rfl ?_ | refine tT rfl rfl ?_ | refine tF rfl rfl ?_ | refine lT rfl rfl ?_ | refine lF rfl rfl ?_)
        refine l_alloca rfl rfl fun b8 hb8 => ?_
        refine l_op rfl (o_storea rfl rfl rfl rfl rfl rfl) fun _ => ?_
        (repeat first | with_reducible (first | apply t_seq | apply t_region | apply t_block | apply t_ret | apply t_skip | apply t_exit | apply l_nil | apply x_then | apply x_pass_exit | apply x_pass_ret | apply x_block_ret | apply x_block_normal | apply x_block_here | apply x_block_out rfl) | refine lAv rfl ?_ | refine l_no rfl ?_ | refine tT rfl rfl ?_ | refine tF rfl rfl ?_ | refine lT rfl rfl ?_ | refine lF rfl rfl ?_)
        refine l_w rfl (v_loadc (xs := bytesV hy) rfl (by rw [bV32 hl32]; rfl) (fun w' hw' => hrow _ w' hw' (.tail _ (.tail _ (.head _))))) ?_
        refine l_opg rfl (o_pure rfl (by kernel_rfl) rfl (fun w1 hw1 => rat_calls2 (l.map shaF) hy (slA (some (bo, co))) l.length (slC (some (bo, co))) hlm hS32 hl32 (by omega) w1 (own_Rd (hw1.item _ (.tail _ (.tail _ (.head _)))).1))) fun _ => ?_
        obtain ⟨z, hz⟩ : ∃ z : Int, (if atN (l.map shaF) hy < l.length then (atN (l.map shaF) hy : Int) else -1) = z := ⟨_, rfl⟩
        rw [hz]
        have hle := at_le (l.map shaF) hy
        by_cases hzi : z = (i : Int)
        · have hat : atN (l.map shaF) hy = i := by
            split at hz <;> omega
          subst hzi
          (repeat first | with_reducible (first | apply t_seq | apply t_region | apply t_block | apply t_ret | apply t_skip | apply t_exit | apply l_nil | apply x_then | apply x_pass_exit | apply x_pass_ret | apply x_block_ret | apply x_block_normal | apply x_block_here | apply x_block_out rfl) | refine lAv rfl ?_ | refine l_no rfl ?_ | refine tT rfl rfl ?_ | refine tF rfl rfl ?_ | refine lT rfl rfl ?_ | refine lF rfl rfl ?_)
          refine t_for (α := Nat) (fun j => [(2, .pointer (some ⟨b2, 0, none⟩)), (5, .slice (slA (some (bo, co))) l.length (slC (some (bo, co)))), (6, .int .i64 i), (7, .pointer (some ⟨b8, 0, none⟩)), (9, .int .i64 j)]) (fun j => j ≤ C.kids.length ∧ ∀ k ∈ C.kids.take j, kidR (l.map shaF) i k.hash)
            (fun _ => [pt b8 (.cells #[.int .u8 C.kind, .string ⟨C.data.toArray⟩, .slice (slA o8) C.kids.length (slC o8)] 70 (0, 0)), own 75 36 o8 C.kids.length (rowsV kidV C.kids), own 23 32 (some (bo, co)) l.length (hsV (l.map shaF)), pt b2 (.cells (strmA r (some ⟨b, off, none⟩) l.length c) 26 (0, 0))]) (fun j => C.kids.length - j) 0 ⟨rfl, rfl, rfl, rfl, rfl, trivial⟩ ⟨Nat.zero_le _, fun _ h => nomatch h⟩ (fun w' hw' => hw') fun j ⟨hj, hgd⟩ => ?_
          by_cases hj2 : j < C.kids.length
          · obtain ⟨bk, ck, rfl⟩ : ∃ b c, o8 = some (b, c) := by
              cases o8 with
              | none => rw [show slC none = 0 from rfl] at hcap; omega
              | some bc => exact ⟨bc.1, bc.2, rfl⟩
            have hup2 := List.take_succ_eq_append_getElem hj2
            have hkin := List.getElem_mem hj2
            have hko := hck _ hkin
            have hkrow : ∀ (m : List Eng.Item) w', Hp w none' m w' → own 75 36 (some (bk, ck)) C.kids.length (rowsV kidV C.kids) ∈ m → w'.rangeAt bk (0 + j * 36) (kidV C.kids[j]) := fun m w' hw' hm => Rd.row kidV_len (rangeAt_own (hw'.item _ hm).1) hj2
            generalize C.kids[j] = k at hup2 hkin hko hkrow
            have h32k := hash32_id hko.1
            (repeat first | with_reducible (first | apply t_seq | apply t_region | apply t_block | apply t_ret | apply t_skip | apply t_exit | apply l_nil | apply x_then | apply x_pass_exit | apply x_pass_ret | apply x_block_ret | apply x_block_normal | apply x_block_here | apply x_block_out rfl) | refine lAv rfl ?_ | refine l_no rfl ?_ | refine tT rfl rfl ?_ | refine tF rfl rfl ?_ | refine lT rfl rfl ?_ | refine lF rfl rfl ?_)
            refine l_w rfl (v_loadcE (xs := bytesV k.hash) (c := (bytesV k.hash).toArray) rfl (by rw [bytesV_length, hko.1]; rfl) (fun w' hw' => by have := kid_hash (hkrow _ w' hw' (.tail _ (.head _))); rw [h32k] at this; exact this) rfl) ?_
            refine l_opg rfl (o_pure rfl (by kernel_rfl) rfl (fun w1 hw1 => rat_calls2 (l.map shaF) k.hash (slA (some (bo, co))) l.length (slC (some (bo, co))) hlm hS32 hko.1 (by omega) w1 (own_Rd (hw1.item _ (.tail _ (.tail _ (.head _)))).1))) fun _ => ?_
            obtain ⟨u, hu⟩ : ∃ u : Int, (if atN (l.map shaF) k.hash < l.length then (atN (l.map shaF) k.hash : Int) else -1) = u := ⟨_, rfl⟩
            rw [hu]
            have hle2 := at_le (l.map shaF) k.hash
            by_cases hui : u < (i : Int)
            · have hkr : kidR (l.map shaF) i k.hash := by
                unfold kidR
                split at hu <;> omega
              (repeat first | with_reducible (first | apply t_seq | apply t_region | apply t_block | apply t_ret | apply t_skip | apply t_exit | apply l_nil | apply x_then | apply x_pass_exit | apply x_pass_ret | apply x_block_ret | apply x_block_normal | apply x_block_here | apply x_block_out rfl) | refine lAv rfl ?_ | refine l_no rfl ?_ | refine tT rfl rfl ?_ | refine tF rfl rfl ?_ | refine lT rfl rfl ?_ | refine lF rfl rfl ?_)
              exact x_round (j + 1) ⟨rfl, rfl, rfl, rfl, rfl, trivial⟩ ⟨hj2, fun q hq => by
                rw [hup2] at hq
                rcases List.mem_append.1 hq with hq | hq
                · exact hgd q hq
                · rw [List.mem_singleton.1 hq]; exact hkr⟩ (fun w' hw' => hw') (by omega)
            · have hkr : ¬ kidR (l.map shaF) i k.hash := by
                unfold kidR
                split at hu <;> omega
              rw [hno (ref_no2 (List.mem_map.2 ⟨k, hkin, rfl⟩) hkr)]
              (repeat first | with_reducible (first | apply t_seq | apply t_region | apply t_block | apply t_ret | apply t_skip | apply t_exit | apply l_nil | apply x_then | apply x_pass_exit | apply x_pass_ret | apply x_block_ret | apply x_block_normal | apply x_block_here | apply x_block_out rfl) | refine lAv rfl ?_ | refine l_no rfl ?_ | refine tT rfl rfl ?_ | refine tF rfl rfl ?_ | refine lT rfl rfl ?_ | refine lF rfl rfl ?_)
              exact x_pu rfl rfl rfl
          · obtain rfl : j = C.kids.length := by omega
            rw [List.take_length] at hgd
            have hok := hgo (ref_yes hat fun x hx => by obtain ⟨k, hk, rfl⟩ := List.mem_map.1 hx; exact hgd k hk)
            (repeat first | with_reducible (first | apply t_seq | apply t_region | apply t_block | apply t_ret | apply t_skip | apply t_exit | apply l_nil | apply x_then | apply x_pass_exit | apply x_pass_ret | apply x_block_ret | apply x_block_normal | apply x_block_here | apply x_block_out rfl) | refine lAv rfl ?_ | refine l_no rfl ?_ | refine tT rfl rfl ?_ | refine tF rfl rfl ?_ | refine lT rfl rfl ?_ | refine lF rfl rfl ?_)
            exact x_round (i + 1) ⟨rfl, rfl, rfl, trivial⟩ ⟨hi2, hok⟩ (fun w' hw' => hw'.pick [2, 3] rfl rfl) (by omega)
        · have hat : atN (l.map shaF) hy ≠ i := by
            split at hz <;> omega
          rw [hno (ref_no1 hat)]
          (repeat first | with_reducible (first | apply t_seq | apply t_region | apply t_block | apply t_ret | apply t_skip | apply t_exit | apply l_nil | apply x_then | apply x_pass_exit | apply x_pass_ret | apply x_block_ret | apply x_block_normal | apply x_block_here | apply x_block_out rfl) | refine lAv rfl ?_ | refine l_no rfl ?_ | refine tT rfl rfl ?_ | refine tF rfl rfl ?_ | refine lT rfl rfl ?_ | refine lF rfl rfl ?_)
          exact x_pu rfl rfl rfl
    · obtain rfl : i = l.length := by omega
      rw [mayR_yes (r := r) (by omega) fun j hj => hall j hj hj]
      (repeat first | with_reducible (first | apply t_seq | apply t_region | apply t_block | apply t_ret | apply t_skip | apply t_exit | apply l_nil | apply x_then | apply x_pass_exit | apply x_pass_ret | apply x_block_ret | apply x_block_normal | apply x_block_here | apply x_block_out rfl) | refine lAv rfl ?_ | refine l_no rfl ?_ | refine tT rfl rfl ?_ | refine tF rfl rfl ?_ | refine lT rfl rfl ?_ | refine lF rfl rfl ?_)
      exact x_pu rfl rfl rfl
end Go.Proofs.YtdkonngkbbgcgaaGreatDoor
