/- package stream: whether a stream may be. -/
import Derived.Test.YtdkonngkbbgcgaaGreatDoorStl
namespace Go.Proofs.YtdkonngkbbgcgaaGreatDoor
open Go.RowKit Go.Eng
set_option maxRecDepth 100000
set_option maxHeartbeats 40000000
theorem kidsF_ok (kind : Nat) : ∀ (n : Nat) (o : Opn), ∀ k ∈ (kidsF kind n o).1, KidOk k
  | 0, _, k, h => by simp [kidsF] at h
  | n + 1, o, k, h => by
    rw [kidsF] at h
    rcases List.mem_cons.1 h with rfl | h
    · exact kidF_ok _ _
    · exact kidsF_ok kind n _ k h
theorem chk_ok {x : Bys} {C : Chk} (h : chkF x = some C) : (∀ k ∈ C.kids, KidOk k) ∧ C.kids.length ≤ 6 ∧ C.kind < 256 := by
  unfold chkF at h
  split at h
  · rename_i hh
    cases h
    refine ⟨fun k hk => ?_, (mayC_iff.1 hh.1).2.1, par_kind x⟩
    unfold parC at hk
    split at hk
    · cases hk
    · exact kidsF_ok _ _ _ k hk
  · cases h
theorem all_of {α : Type} {f : Nat → α → Bool} : ∀ (l : List α) (i : Nat), (∀ j (h : j < l.length), f (i + j) l[j] = true) → allFrom f i l = true
  | [], _, _ => rfl
  | x :: l, i, h => by
    rw [allFrom, Bool.and_eq_true]
    refine ⟨h 0 (by simp), all_of l (i + 1) fun j hj => ?_⟩
    have := h (j + 1) (by simp; omega)
    rwa [show i + (j + 1) = i + 1 + j by omega] at this
theorem all_held (l : List Bys) (h : Bys) : ∃ c, ((allA l).lookup h).getD (heldV []) = heldV c := by
  induction l using snoc_ind with
  | h0 => exact ⟨[], rfl⟩
  | hs l c ih =>
    have e : allA (l ++ [c]) = insA (allA l) (shaF c) (heldV c) := by rw [allA, List.foldl_append]; rfl
    rw [e, insA_lookup]
    split
    · exact ⟨c, rfl⟩
    · exact ih
noncomputable def kF (c : Bys) : Option (List Bys) := (chkF c).map fun k => k.kids.map (·.hash)
theorem may_no {r : Bys} {l : List Bys} (h : ¬ ((l.map shaF).Nodup ∧ l.length ≤ 512 ∧ ∀ j (h : j < l.length), kidsOk (l.map shaF) j (kF l[j]) = true)) : mayF ⟨r, l⟩ = false := by
  cases hb : mayF ⟨r, l⟩ with
  | false => rfl
  | true =>
    exfalso
    apply h
    unfold mayF mayP at hb
    simp only [Bool.and_eq_true, decide_eq_true_eq, List.length_map] at hb
    refine ⟨hb.1.1, hb.1.2, fun j hj => ?_⟩
    have := all_at _ _ hb.2 j (by simp [ksF]; exact hj)
    rw [Nat.zero_add] at this
    have e : (ksF l)[j]'(by simp [ksF]; exact hj) = kF l[j] := by simp [ksF, kF]
    rw [e] at this
    exact this
theorem may_yes {r : Bys} {l : List Bys} (h1 : (l.map shaF).Nodup) (h2 : l.length ≤ 512) (h3 : ∀ j (h : j < l.length), kidsOk (l.map shaF) j (kF l[j]) = true) : mayF ⟨r, l⟩ = true := by
  unfold mayF mayP
  simp only [Bool.and_eq_true, decide_eq_true_eq, List.length_map]
  refine ⟨⟨h1, h2⟩, all_of _ _ fun j hj => ?_⟩
  have hj' : j < l.length := by simpa [ksF] using hj
  rw [Nat.zero_add]
  have e : (ksF l)[j] = kF l[j] := by simp [ksF, kF]
  rw [e]
  exact h3 j hj'
theorem chk_one (k : Nat) (d : ByteArray) (o : Option (Nat × Nat)) (n : Nat) : oneAll [.int .u8 (k : Int), .string d, slV o n] = true := by
  have h1 : (Value.int .u8 (k : Int)).oneCell' = true := rfl
  have h2 : (Value.string d).oneCell' = true := rfl
  simp only [oneAll, h1, h2, slV_one, Bool.and_self]
def kidGood (hs : List Bys) (i : Nat) (h : Bys) : Prop := h ∈ hs → h ∈ hs.take i
theorem kids_good {hs : List Bys} {i : Nat} {L : List Bys} (h : ∀ x ∈ L, kidGood hs i x) : kidsOk hs i (some L) = true := by
  unfold kidsOk
  rw [List.all_eq_true]
  intro x hx
  rw [Bool.or_eq_true, decide_eq_true_eq, decide_eq_true_eq]
  by_cases hm : x ∈ hs
  · exact .inr (h x hx hm)
  · have h1 := at_le hs x
    have h2 := mt (at_mem hs x).1 hm
    left; omega
theorem kids_bad2 {hs : List Bys} {i : Nat} {L : List Bys} {x : Bys} (hx : x ∈ L) (h : ¬ kidGood hs i x) : kidsOk hs i (some L) ≠ true := by
  intro hk
  unfold kidsOk at hk
  rw [List.all_eq_true] at hk
  have := hk x hx
  rw [Bool.or_eq_true, decide_eq_true_eq, decide_eq_true_eq] at this
  apply h
  intro hm
  rcases this with h1 | h1
  · have := (at_mem hs x).2 hm; omega
  · exact h1
theorem smay_calls (r : Bys) (l : List Bys) (a : Option Addr) (c : Nat) (hr : r.length = 32) (w : World) (hs : ChL w a c l) (ht : Tabs w) :
    Pu Tryz.prog 11 #[.agg (strmA r a l.length c)] w (.bool (mayF ⟨r, l⟩)) := by
  refine pu_of [_] Tryz.func11 rfl rfl ?_
  simp only [argSlots]
  have hmany := hs.many
  have h32 := strm_32 r hr a l.length c
  (repeat first | with_reducible (first | apply t_seq | apply t_region | apply t_block | apply t_ret | apply t_skip | apply t_exit | apply l_nil | apply x_then | apply x_pass_exit | apply x_pass_ret | apply x_block_ret | apply x_block_normal | apply x_block_here | apply x_block_out rfl) | refine lAv rfl ?_ | refine l_no rfl ?_ | refine tT rfl rfl ?_ | refine tF rfl rfl ?_ | refine lT rfl rfl ?_ | refine lF rfl rfl ?_)
  refine l_boxa rfl rfl fun b1 hb1 => ?_
  (repeat first | with_reducible (first | apply t_seq | apply t_region | apply t_block | apply t_ret | apply t_skip | apply t_exit | apply l_nil | apply x_then | apply x_pass_exit | apply x_pass_ret | apply x_block_ret | apply x_block_normal | apply x_block_here | apply x_block_out rfl) | refine lAv rfl ?_ | refine l_no rfl ?_ | refine tT rfl rfl ?_ | refine tF rfl rfl ?_ | refine lT rfl rfl ?_ | refine lF rfl rfl ?_)
  refine l_w rfl (v_loada rfl (by rw [strm_size r hr]; rfl) (.head _)) ?_
  refine l_ctg rfl rfl (by kernel_rfl) rfl (fun w1 hw1 => hashes_calls r l a c hr w1 (hs.keep hw1) (ht.keep hw1)) fun x hx => ?_
  obtain ⟨bm, hbm⟩ : ∃ bm, x = bm := ⟨_, rfl⟩
  rw [hbm]
  by_cases hN : (l.map shaF).Nodup
  · (repeat first | with_reducible (first | apply t_seq | apply t_region | apply t_block | apply t_ret | apply t_skip | apply t_exit | apply l_nil | apply x_then | apply x_pass_exit | apply x_pass_ret | apply x_block_ret | apply x_block_normal | apply x_block_here | apply x_block_out rfl) | refine lAv rfl ?_ | refine l_no rfl ?_ | refine tT rfl rfl ?_ | refine tF rfl rfl ?_ | refine lT rfl rfl ?_ | refine lF rfl rfl ?_)
    refine l_w rfl (v_loadp rfl rfl (.tail _ (.head _)) h32) ?_
    by_cases h512 : l.length ≤ 512
    · (repeat first | with_reducible (first | apply t_seq | apply t_region | apply t_block | apply t_ret | apply t_skip | apply t_exit | apply l_nil | apply x_then | apply x_pass_exit | apply x_pass_ret | apply x_block_ret | apply x_block_normal | apply x_block_here | apply x_block_out rfl) | refine lAv rfl ?_ | refine l_no rfl ?_ | refine tT rfl rfl ?_ | refine tF rfl rfl ?_ | refine lT rfl rfl ?_ | refine lF rfl rfl ?_)
      refine l_op rfl (o_makemap rfl) fun ⟨bq, hbq⟩ => ?_
      (repeat first | with_reducible (first | apply t_seq | apply t_region | apply t_block | apply t_ret | apply t_skip | apply t_exit | apply l_nil | apply x_then | apply x_pass_exit | apply x_pass_ret | apply x_block_ret | apply x_block_normal | apply x_block_here | apply x_block_out rfl) | refine lAv rfl ?_ | refine l_no rfl ?_ | refine tT rfl rfl ?_ | refine tF rfl rfl ?_ | refine lT rfl rfl ?_ | refine lF rfl rfl ?_)
      refine l_w rfl (v_loadp rfl rfl (.tail _ (.tail _ (.head _))) h32) ?_
      (repeat first | with_reducible (first | apply t_seq | apply t_region | apply t_block | apply t_ret | apply t_skip | apply t_exit | apply l_nil | apply x_then | apply x_pass_exit | apply x_pass_ret | apply x_block_ret | apply x_block_normal | apply x_block_here | apply x_block_out rfl) | refine lAv rfl ?_ | refine l_no rfl ?_ | refine tT rfl rfl ?_ | refine tF rfl rfl ?_ | refine lT rfl rfl ?_ | refine lF rfl rfl ?_)
      refine t_for (α := Nat) (fun i => [(3, .map (some bm)), (5, .map (some bq)), (29, .slice a l.length c), (30, .int .i64 l.length), (31, .int .i64 i)]) (fun i => i ≤ l.length ∧ ∀ j (h : j < l.length), j < i → kidsOk (l.map shaF) j (kF l[j]) = true)
        (fun i => [mapAt bq (metA (l.take i)), mapAt bm (allA l)]) (fun i => l.length - i) 0 ⟨rfl, rfl, rfl, rfl, rfl, trivial⟩ ⟨Nat.zero_le _, fun _ _ h => nomatch h⟩ (fun w' hw' => hw'.pick [0, 1] rfl rfl) fun i ⟨hi, hall⟩ => ?_
      by_cases hi2 : i < l.length
      · obtain ⟨b, off, rfl, hcell⟩ := hs.at_ (by omega)
        have hci := hcell i hi2
        have hup := met_up l hi2
        have hlong := hs.long _ (List.getElem_mem hi2)
        have hkx : ∀ v, l[i] = v → (kidsOk (l.map shaF) i (kF v) = true → ∀ j (h : j < l.length), j < i + 1 → kidsOk (l.map shaF) j (kF l[j]) = true) ∧ (kidsOk (l.map shaF) i (kF v) ≠ true → mayF ⟨r, l⟩ = false) := fun v hv => by
          subst hv
          refine ⟨fun hk j hj hji => ?_, fun hk => may_no fun h => hk (h.2.2 i hi2)⟩
          by_cases e : j = i
          · subst e; exact hk
          · exact hall j hj (by omega)
        obtain ⟨hyes, hno⟩ := hkx _ rfl
        generalize l[i] = y at hci hup hlong hyes hno
        have hxl := ba_len y
        (repeat first | with_reducible (first | apply t_seq | apply t_region | apply t_block | apply t_ret | apply t_skip | apply t_exit | apply l_nil | apply x_then | apply x_pass_exit | apply x_pass_ret | apply x_block_ret | apply x_block_normal | apply x_block_here | apply x_block_out rfl) | refine lAv rfl ?_ | refine l_no rfl ?_ | refine tT rfl rfl ?_ | refine tF rfl rfl ?_ | refine lT rfl rfl ?_ | refine lF rfl rfl ?_)
        refine l_w rfl (v_load0 rfl rfl (fun h => h) hci) ?_
        (repeat first | with_reducible (first | apply t_seq | apply t_region | apply t_block | apply t_ret | apply t_skip | apply t_exit | apply l_nil | apply x_then | apply x_pass_exit | apply x_pass_ret | apply x_block_ret | apply x_block_normal | apply x_block_here | apply x_block_out rfl) | refine lAv rfl ?_ | refine l_no rfl ?_ | refine tT rfl rfl ?_ | refine tF rfl rfl ?_ | refine lT rfl rfl ?_ | refine lF rfl rfl ?_)
        refine l_op rfl (o_strb rfl rfl rfl rfl) fun ⟨p, hp1, hp2⟩ => ?_
        refine l_ctg rfl rfl (by kernel_rfl) rfl (fun w1 hw1 => ctake_calls (some ⟨p.1, 0, none⟩) (⟨y.toArray⟩ : ByteArray).size p.2 y hxl.symm (by omega) w1 (.inr ⟨p.1, 0, rfl, strRow_at (hw1.item _ (.head _)).1⟩)) fun x hx => ?_
        (repeat first | with_reducible (first | apply t_seq | apply t_region | apply t_block | apply t_ret | apply t_skip | apply t_exit | apply l_nil | apply x_then | apply x_pass_exit | apply x_pass_ret | apply x_block_ret | apply x_block_normal | apply x_block_here | apply x_block_out rfl) | refine lAv rfl ?_ | refine l_no rfl ?_ | refine tT rfl rfl ?_ | refine tF rfl rfl ?_ | refine lT rfl rfl ?_ | refine lF rfl rfl ?_)
        obtain ⟨o8, ho8⟩ : ∃ o, x = o := ⟨_, rfl⟩
        rw [ho8]
        rcases hC : chkF y with _ | C
        · simp only [Option.isSome_none, if_neg Bool.false_ne_true]
          have hm := hno (by unfold kF; rw [hC]; exact Bool.false_ne_true)
          (repeat first | with_reducible (first | apply t_seq | apply t_region | apply t_block | apply t_ret | apply t_skip | apply t_exit | apply l_nil | apply x_then | apply x_pass_exit | apply x_pass_ret | apply x_block_ret | apply x_block_normal | apply x_block_here | apply x_block_out rfl) | refine lAv rfl ?_ | refine l_no rfl ?_ | refine tT rfl rfl ?_ | refine tF rfl rfl ?_ | refine lT rfl rfl ?_ | refine lF rfl rfl ?_)
          refine l_alloca rfl rfl fun b8 hb8 => ?_
          refine l_op rfl (o_storea rfl rfl rfl rfl (chk_one _ _ _ _) rfl) fun _ => ?_
          (repeat first | with_reducible (first | apply t_seq | apply t_region | apply t_block | apply t_ret | apply t_skip | apply t_exit | apply l_nil | apply x_then | apply x_pass_exit | apply x_pass_ret | apply x_block_ret | apply x_block_normal | apply x_block_here | apply x_block_out rfl) | refine lAv rfl ?_ | refine l_no rfl ?_ | refine tT rfl rfl ?_ | refine tF rfl rfl ?_ | refine lT rfl rfl ?_ | refine lF rfl rfl ?_)
          rw [hm]
          exact x_pu rfl rfl rfl
        · obtain ⟨hck, hc6, hc256⟩ := chk_ok hC
          have hkF : kF y = some (C.kids.map (·.hash)) := by unfold kF; rw [hC]; rfl
          rw [hkF] at hyes hno
          simp only [Option.getD_some, Option.isSome_some, if_true]
          refine l_fact (fun w hw => (own_val (hw.item (own 85 36 o8 C.kids.length (rowsV kidV C.kids)) (by simp)).1)) fun ⟨hsl, hcap⟩ => ?_
          rw [hsl]
          (repeat first | with_reducible (first | apply t_seq | apply t_region | apply t_block | apply t_ret | apply t_skip | apply t_exit | apply l_nil | apply x_then | apply x_pass_exit | apply x_pass_ret | apply x_block_ret | apply x_block_normal | apply x_block_here | apply x_block_out rfl) | refine lAv rfl ?_ | refine l_no rfl ?_ | refine tT rfl rfl ?_ | refine tF rfl rfl ?_ | refine lT rfl rfl ?_ | refine lF rfl rfl ?_)
          refine l_alloca rfl rfl fun b8 hb8 => ?_
          refine l_op rfl (o_storea rfl rfl rfl rfl rfl rfl) fun _ => ?_
          (repeat first | with_reducible (first | apply t_seq | apply t_region | apply t_block | apply t_ret | apply t_skip | apply t_exit | apply l_nil | apply x_then | apply x_pass_exit | apply x_pass_ret | apply x_block_ret | apply x_block_normal | apply x_block_here | apply x_block_out rfl) | refine lAv rfl ?_ | refine l_no rfl ?_ | refine tT rfl rfl ?_ | refine tF rfl rfl ?_ | refine lT rfl rfl ?_ | refine lF rfl rfl ?_)
          refine t_for (α := Nat) (fun j => [(3, .map (some bm)), (5, .map (some bq)), (7, .string ⟨y.toArray⟩), (29, .slice (some ⟨b, off, none⟩) l.length c), (30, .int .i64 l.length), (31, .int .i64 i), (44, .slice (slA o8) C.kids.length (slC o8)), (45, .int .i64 C.kids.length), (46, .int .i64 j)]) (fun j => j ≤ C.kids.length ∧ ∀ k ∈ C.kids.take j, kidGood (l.map shaF) i k.hash)
            (fun _ => [own 85 36 o8 C.kids.length (rowsV kidV C.kids), mapAt bq (metA (l.take i)), mapAt bm (allA l)]) (fun j => C.kids.length - j) 0 ⟨rfl, rfl, rfl, rfl, rfl, rfl, rfl, rfl, rfl, trivial⟩ ⟨Nat.zero_le _, fun _ h => nomatch h⟩ (fun w' hw' => hw'.pick [1, 3, 4] rfl rfl) fun j ⟨hj, hgd⟩ => ?_
          by_cases hj2 : j < C.kids.length
          · match o8 with
            | none => exact t_fact (fun w hw => show False by have h1 : C.kids.length = 0 := (hw.item _ (.head _)).1.2; omega) fun h => h.elim
            | some (bo, co) =>
              have hup2 := List.take_succ_eq_append_getElem hj2
              have hkin := List.getElem_mem hj2
              have hko := hck _ hkin
              have hrow : ∀ (m : List Eng.Item) w', Hp w none' m w' → own 85 36 (some (bo, co)) C.kids.length (rowsV kidV C.kids) ∈ m → w'.rangeAt bo (0 + j * 36) (kidV C.kids[j]) := fun m w' hw' hm => Rd.row kidV_len (rangeAt_own (hw'.item _ hm).1) hj2
              generalize C.kids[j] = k at hup2 hkin hko hrow
              have h32k := hash32_id hko.1
              obtain ⟨c', hc'⟩ := all_held l k.hash
              (repeat first | with_reducible (first | apply t_seq | apply t_region | apply t_block | apply t_ret | apply t_skip | apply t_exit | apply l_nil | apply x_then | apply x_pass_exit | apply x_pass_ret | apply x_block_ret | apply x_block_normal | apply x_block_here | apply x_block_out rfl) | refine lAv rfl ?_ | refine l_no rfl ?_ | refine tT rfl rfl ?_ | refine tF rfl rfl ?_ | refine lT rfl rfl ?_ | refine lF rfl rfl ?_)
              refine l_w rfl (v_loadc (xs := kidV k) rfl (by rw [kidV_len]; rfl) (fun w' hw' => hrow _ w' hw' (.head _))) ?_
              refine l_alloca rfl rfl fun b11 hb11 => ?_
              refine l_op rfl (o_storea (cs' := (kidV k).toArray) rfl rfl rfl (by rw [List.size_toArray, kidV_len]; rfl) (by rw [List.toList_toArray]; exact kid_one k) (by rw [List.size_toArray, kidV_len]; rfl)) fun _ => ?_
              (repeat first | with_reducible (first | apply t_seq | apply t_region | apply t_block | apply t_ret | apply t_skip | apply t_exit | apply l_nil | apply x_then | apply x_pass_exit | apply x_pass_ret | apply x_block_ret | apply x_block_normal | apply x_block_here | apply x_block_out rfl) | refine lAv rfl ?_ | refine l_no rfl ?_ | refine tT rfl rfl ?_ | refine tF rfl rfl ?_ | refine lT rfl rfl ?_ | refine lF rfl rfl ?_)
              refine l_w rfl (v_loadcE (xs := bytesV k.hash) (c := (bytesV k.hash).toArray) rfl (by rw [bytesV_length, hko.1]; rfl) (fun w' hw' => by have := kid_hash (rangeAt_pt (hw'.get (b := b11) (.head _))); rw [h32k] at this; exact this) rfl) ?_
              (repeat first | with_reducible (first | apply t_seq | apply t_region | apply t_block | apply t_ret | apply t_skip | apply t_exit | apply l_nil | apply x_then | apply x_pass_exit | apply x_pass_ret | apply x_block_ret | apply x_block_normal | apply x_block_here | apply x_block_out rfl) | refine lAv rfl ?_ | refine l_no rfl ?_ | refine tT rfl rfl ?_ | refine tF rfl rfl ?_ | refine lT rfl rfl ?_ | refine lF rfl rfl ?_)
              refine l_w rfl (v_lookK (h := k.hash) (zv := heldV []) hash_law hash_keys rfl rfl rfl rfl hko.1 (.tail _ (.tail _ (.tail _ (.head _))))) ?_
              (repeat first | with_reducible (first | apply t_seq | apply t_region | apply t_block | apply t_ret | apply t_skip | apply t_exit | apply l_nil | apply x_then | apply x_pass_exit | apply x_pass_ret | apply x_block_ret | apply x_block_normal | apply x_block_here | apply x_block_out rfl) | refine lAv rfl ?_ | refine l_no rfl ?_ | refine tT rfl rfl ?_ | refine tF rfl rfl ?_ | refine lT rfl rfl ?_ | refine lF rfl rfl ?_)
              refine l_say 55 _ (.agg #[.string ⟨c'.toArray⟩]) rfl hc' ?_
              refine l_alloca rfl rfl fun b12 hb12 => ?_
              refine l_op rfl (o_storea rfl rfl rfl rfl rfl rfl) fun _ => ?_
              have hbad : ¬ kidGood (l.map shaF) i k.hash → mayF ⟨r, l⟩ = false := fun h => hno (kids_bad2 (List.mem_map.2 ⟨k, hkin, rfl⟩) h)
              have hmet := met_look (l.take i) k.hash
              rw [List.map_take] at hmet
              by_cases hin : k.hash ∈ l.map shaF
              · have hsome := (all_has l k.hash).2 hin
                rw [hsome]
                (repeat first | with_reducible (first | apply t_seq | apply t_region | apply t_block | apply t_ret | apply t_skip | apply t_exit | apply l_nil | apply x_then | apply x_pass_exit | apply x_pass_ret | apply x_block_ret | apply x_block_normal | apply x_block_here | apply x_block_out rfl) | refine lAv rfl ?_ | refine l_no rfl ?_ | refine tT rfl rfl ?_ | refine tF rfl rfl ?_ | refine lT rfl rfl ?_ | refine lF rfl rfl ?_)
                refine l_w rfl (v_loadcE (xs := bytesV k.hash) (c := (bytesV k.hash).toArray) rfl (by rw [bytesV_length, hko.1]; rfl) (fun w' hw' => by have := kid_hash (rangeAt_pt (hw'.get (b := b11) (.tail _ (.head _)))); rw [h32k] at this; exact this) rfl) ?_
                refine l_w rfl (v_lookK1 (h := k.hash) (zv := .int .i64 0) hash_law hash_keys rfl rfl rfl rfl hko.1 (.tail _ (.tail _ (.tail _ (.head _))))) ?_
                rw [hmet]
                by_cases hin2 : k.hash ∈ (l.map shaF).take i
                · rw [if_pos hin2, Option.getD_some]
                  (repeat first | with_reducible (first | apply t_seq | apply t_region | apply t_block | apply t_ret | apply t_skip | apply t_exit | apply l_nil | apply x_then | apply x_pass_exit | apply x_pass_ret | apply x_block_ret | apply x_block_normal | apply x_block_here | apply x_block_out rfl) | refine lAv rfl ?_ | refine l_no rfl ?_ | refine tT rfl rfl ?_ | refine tF rfl rfl ?_ | refine lT rfl rfl ?_ | refine lF rfl rfl ?_)
                  refine x_round (j + 1) ⟨rfl, rfl, rfl, rfl, rfl, rfl, rfl, rfl, rfl, trivial⟩ ⟨hj2, fun q hq => ?_⟩ (fun w' hw' => hw'.pick [2, 3, 4] rfl rfl) (by omega)
                  rw [hup2] at hq
                  rcases List.mem_append.1 hq with hq | hq
                  · exact hgd q hq
                  · rw [List.mem_singleton.1 hq]; exact fun _ => hin2
                · rw [if_neg hin2, Option.getD_none]
                  have hm := hbad fun h => hin2 (h hin)
                  (repeat first | with_reducible (first | apply t_seq | apply t_region | apply t_block | apply t_ret | apply t_skip | apply t_exit | apply l_nil | apply x_then | apply x_pass_exit | apply x_pass_ret | apply x_block_ret | apply x_block_normal | apply x_block_here | apply x_block_out rfl) | refine lAv rfl ?_ | refine l_no rfl ?_ | refine tT rfl rfl ?_ | refine tF rfl rfl ?_ | refine lT rfl rfl ?_ | refine lF rfl rfl ?_)
                  rw [hm]
                  exact x_pu rfl rfl rfl
              · have hsome : ((allA l).lookup k.hash).isSome = false := Bool.eq_false_iff.2 fun h => hin ((all_has l k.hash).1 h)
                rw [hsome]
                (repeat first | with_reducible (first | apply t_seq | apply t_region | apply t_block | apply t_ret | apply t_skip | apply t_exit | apply l_nil | apply x_then | apply x_pass_exit | apply x_pass_ret | apply x_block_ret | apply x_block_normal | apply x_block_here | apply x_block_out rfl) | refine lAv rfl ?_ | refine l_no rfl ?_ | refine tT rfl rfl ?_ | refine tF rfl rfl ?_ | refine lT rfl rfl ?_ | refine lF rfl rfl ?_)
                refine x_round (j + 1) ⟨rfl, rfl, rfl, rfl, rfl, rfl, rfl, rfl, rfl, trivial⟩ ⟨hj2, fun q hq => ?_⟩ (fun w' hw' => hw'.pick [2, 3, 4] rfl rfl) (by omega)
                rw [hup2] at hq
                rcases List.mem_append.1 hq with hq | hq
                · exact hgd q hq
                · rw [List.mem_singleton.1 hq]; exact fun h => absurd h hin
          · obtain rfl : j = C.kids.length := by omega
            rw [List.take_length] at hgd
            have hgood := kids_good (hs := l.map shaF) (i := i) (L := C.kids.map (·.hash)) fun h hh => by
              obtain ⟨k, hk, rfl⟩ := List.mem_map.1 hh
              exact hgd k hk
            (repeat first | with_reducible (first | apply t_seq | apply t_region | apply t_block | apply t_ret | apply t_skip | apply t_exit | apply l_nil | apply x_then | apply x_pass_exit | apply x_pass_ret | apply x_block_ret | apply x_block_normal | apply x_block_here | apply x_block_out rfl) | refine lAv rfl ?_ | refine l_no rfl ?_ | refine tT rfl rfl ?_ | refine tF rfl rfl ?_ | refine lT rfl rfl ?_ | refine lF rfl rfl ?_)
            refine l_op rfl (o_strb rfl rfl rfl rfl) fun ⟨p2, hp1', hp2'⟩ => ?_
            refine l_opg rfl (o_pure rfl (by kernel_rfl) rfl (fun w1 hw1 => sha_calls (some ⟨p2.1, 0, none⟩) (⟨y.toArray⟩ : ByteArray).size p2.2 y hxl.symm hp2' (by omega) w1 (.inr ⟨p2.1, 0, rfl, strRow_at (hw1.item _ (.head _)).1⟩) (ht.keep hw1))) fun _ => ?_
            refine l_op rfl (ho_perm (bring2 _ _ _ _) (o_mapup hash_law hash_keys rfl rfl rfl rfl rfl (shaF_len y))) fun _ => ?_
            rw [← hup]
            (repeat first | with_reducible (first | apply t_seq | apply t_region | apply t_block | apply t_ret | apply t_skip | apply t_exit | apply l_nil | apply x_then | apply x_pass_exit | apply x_pass_ret | apply x_block_ret | apply x_block_normal | apply x_block_here | apply x_block_out rfl) | refine lAv rfl ?_ | refine l_no rfl ?_ | refine tT rfl rfl ?_ | refine tF rfl rfl ?_ | refine lT rfl rfl ?_ | refine lF rfl rfl ?_)
            exact x_round (i + 1) ⟨rfl, rfl, rfl, rfl, rfl, trivial⟩ ⟨hi2, hyes hgood⟩ (fun w' hw' => hw'.pick [0, 3] rfl rfl) (by omega)
      · obtain rfl : i = l.length := by omega
        have hm := may_yes (r := r) hN h512 fun j hj => hall j hj hj
        (repeat first | with_reducible (first | apply t_seq | apply t_region | apply t_block | apply t_ret | apply t_skip | apply t_exit | apply l_nil | apply x_then | apply x_pass_exit | apply x_pass_ret | apply x_block_ret | apply x_block_normal | apply x_block_here | apply x_block_out rfl) | refine lAv rfl ?_ | refine l_no rfl ?_ | refine tT rfl rfl ?_ | refine tF rfl rfl ?_ | refine lT rfl rfl ?_ | refine lF rfl rfl ?_)
        rw [hm]
        exact x_pu rfl rfl rfl
    · have hm := may_no (r := r) (l := l) fun h => h512 h.2.1
      (repeat first | with_reducible (first | apply t_seq | apply t_region | apply t_block | apply t_ret | apply t_skip | apply t_exit | apply l_nil | apply x_then | apply x_pass_exit | apply x_pass_ret | apply x_block_ret | apply x_block_normal | apply x_block_here | apply x_block_out rfl) | refine lAv rfl ?_ | refine l_no rfl ?_ | refine tT rfl rfl ?_ | refine tF rfl rfl ?_ | refine lT rfl rfl ?_ | refine lF rfl rfl ?_)
      rw [hm]
      exact x_pu rfl rfl rfl
  · have hm := may_no (r := r) (l := l) fun h => hN h.1
    (repeat first | with_reducible (first | apply t_seq | apply t_region | apply t_block | apply t_ret | apply t_skip | apply t_exit | apply l_nil | apply x_then | apply x_pass_exit | apply x_pass_ret | apply x_block_ret | apply x_block_normal | apply x_block_here | apply x_block_out rfl) | refine lAv rfl ?_ | refine l_no rfl ?_ | refine tT rfl rfl ?_ | refine tF rfl rfl ?_ | refine lT rfl rfl ?_ | refine lF rfl rfl ?_)
    rw [hm]
    exact x_pu rfl rfl rfl
end Go.Proofs.YtdkonngkbbgcgaaGreatDoor
