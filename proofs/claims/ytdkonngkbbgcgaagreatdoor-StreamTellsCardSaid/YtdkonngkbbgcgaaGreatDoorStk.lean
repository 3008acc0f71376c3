/- package stream: hashes as keys of maps; streams as values; what is put into a map of hashes. -/
import Derived.Test.YtdkonngkbbgcgaaGreatDoorCht
import Derived.Test.YtdkonngkbbgcgaaGreatDoorShy
import Derived.Test.YtdkonngkbbgcgaaGreatDoorGc
import Derived.ChangeSlices
namespace Go.Proofs.YtdkonngkbbgcgaaGreatDoor
open Go.RowKit Go.Eng
set_option maxRecDepth 100000
theorem hash_under : Tryz.prog.underlying 23 = some (.array 32 5) := rfl
theorem byte_under : Tryz.prog.underlying 5 = some (.int .u8) := rfl
theorem hash_keys (h : List UInt8) (hl : h.length = 32) : ∃ q, keyOf Tryz.prog 23 (hashV h) = some q := by
  have hk : Tryz.prog.keyType 23 = true := by kernel_rfl
  have hc : Tryz.prog.cellsOf 23 = 32 := by kernel_rfl
  have hc1 : Tryz.prog.cellsOf 5 = 1 := by kernel_rfl
  obtain ⟨m, hm⟩ : ∃ m, Tryz.prog.types.size = m + 1 := ⟨Tryz.prog.types.size - 1, by
    have h1 : Nat.ble 1 Tryz.prog.types.size = true := by kernel_rfl
    have := Nat.le_of_ble_eq_true h1
    omega⟩
  have hf : (hashV h).formed Tryz.prog 23 = true := by
    simp only [Value.formed, hashV, hash_under, hc]
    simp [hl]
  have hcl : (hashV h).cells.toList = bytesV h := by simp [hashV, Value.cells, bytesV]
  have hone : ∀ i, i < 32 → Tryz.prog.keyLits (m + 1) 5 (((bytesV h).drop (i * 1)).take 1) = some [Lit.int .u8 (((bytesV h).map fun v => match v with | .int _ n => n | _ => 0).getD i 0)] := fun i hi => by
    have hi2 : i < h.length := by omega
    have e : ((bytesV h).drop (i * 1)).take 1 = [.int .u8 (h[i].toNat : Int)] := by
      rw [Nat.mul_one, List.drop_eq_getElem_cons (by rw [bytesV_length]; exact hi2)]
      simp [bytesV]
    have e2 : ((bytesV h).map fun v => match v with | .int _ n => n | _ => 0).getD i 0 = (h[i].toNat : Int) := by
      rw [List.getD_eq_getElem?_getD, List.getElem?_map, bytesV_at hi2]; rfl
    rw [e, e2]
    simp only [Program.keyLits, byte_under]
    have hlt := h[i].toNat_lt
    rw [if_pos]
    refine ⟨trivial, ?_⟩
    simp only [Lit.wf, Bool.and_eq_true, decide_eq_true_eq]
    simp [IntKind.min, IntKind.max, IntKind.signed, IntKind.bits]
    omega
  have hall := Go.ChangeShapes.mapM_range_of (f := fun i => Tryz.prog.keyLits (m + 1) 5 (((bytesV h).drop (i * 1)).take 1)) 32 hone
  refine Option.isSome_iff_exists.1 ?_
  unfold keyOf
  simp only [hash_under]
  rw [if_pos (by rw [hk, hf]; rfl), hcl, hm]
  unfold Program.keyLits
  simp only [hash_under, hc, hc1]
  rw [if_pos (by rw [bytesV_length, hl]), hall]
  rfl
theorem hash_law : WideMaps.KeyLaw Tryz.prog 23 := deep_law (m := 2) (by decide) (by kernel_rfl) (by kernel_rfl) (by kernel_rfl)
/-- Texts as values. -/
def bas (l : List Bys) : List ByteArray := l.map fun c => ⟨c.toArray⟩
theorem bas_len (l : List Bys) : (bas l).length = l.length := by simp [bas]
theorem bas_at {l : List Bys} {i : Nat} (h : i < l.length) : (bas l)[i]'(by rw [bas_len]; exact h) = ⟨l[i].toArray⟩ := by simp [bas]
/-- A stream's cells. -/
abbrev strmA (r : Bys) (a : Option Addr) (n c : Nat) : Array Value := (bytesV r ++ [Value.slice a n c]).toArray
theorem strm_32 (r : Bys) (hr : r.length = 32) (a : Option Addr) (n c : Nat) : (strmA r a n c)[32]? = some (.slice a n c) := by
  rw [List.getElem?_toArray, List.getElem?_append_right (by rw [bytesV_length]; omega), bytesV_length, hr]; rfl
theorem strm_size (r : Bys) (hr : r.length = 32) (a : Option Addr) (n c : Nat) : (strmA r a n c).size = 33 := by simp [bytesV_length, hr]
theorem strm_one (r : Bys) (a : Option Addr) (n c : Nat) : oneAll (strmA r a n c).toList = true := by
  rw [oneAll_iff]
  intro v hv
  rcases List.mem_append.1 hv with hv | hv
  · exact oneAll_iff.1 (bytesV_one _) v hv
  · rw [List.mem_singleton] at hv; subst hv; rfl
theorem strm_root {w : World} {b : Nat} {r : Bys} {a : Option Addr} {n c : Nat} {E : TypeId} {fz : Nat × Nat} (h : w.heap[b]? = some (.cells (strmA r a n c) E fz)) : w.rangeAt b 0 (bytesV r) := fun j v hj => by
  refine rangeAt_pt h j v ?_
  rw [List.getElem?_append_left (List.getElem?_eq_some_iff.1 hj).1]; exact hj
/-! ### What is put -/
def heldV (c : Bys) : Value := .agg #[.string ⟨c.toArray⟩]
/-- The map of a stream's chunks. -/
def allA (l : List Bys) : List (List UInt8 × Value) := l.foldl (fun A c => insA A (shaF c) (heldV c)) []
theorem all_up (l : List Bys) {i : Nat} (h : i < l.length) : allA (l.take (i + 1)) = insA (allA (l.take i)) (shaF l[i]) (heldV l[i]) := by
  rw [allA, List.take_succ_eq_append_getElem h, List.foldl_append]; rfl
/-- The keys of a row that was put in. -/
def keysN (l : List Bys) : List Bys := l.foldl (fun K h => if h ∈ K then K else K ++ [h]) []
theorem snoc_ind {α : Type} {M : List α → Prop} (h0 : M []) (hs : ∀ l x, M l → M (l ++ [x])) (l : List α) : M l := by
  have : ∀ r : List α, M r.reverse := fun r => by
    induction r with
    | nil => exact h0
    | cons x r ih => rw [List.reverse_cons]; exact hs _ _ ih
  have h := this l.reverse
  rwa [List.reverse_reverse] at h
theorem keys_snoc (l : List Bys) (h : Bys) : keysN (l ++ [h]) = if h ∈ keysN l then keysN l else keysN l ++ [h] := by rw [keysN, List.foldl_append]; rfl
theorem keys_mem (l : List Bys) (x : Bys) : x ∈ keysN l ↔ x ∈ l := by
  induction l using snoc_ind with
  | h0 => simp [keysN]
  | hs l h ih =>
    rw [keys_snoc]
    split
    · rename_i hm
      rw [ih, List.mem_append, List.mem_singleton]
      constructor
      · exact .inl
      · rintro (h1 | rfl)
        · exact h1
        · exact ih.1 hm
    · rw [List.mem_append, List.mem_append, ih]
theorem keys_len (l : List Bys) : (keysN l).length ≤ l.length ∧ ((keysN l).length = l.length ↔ l.Nodup) := by
  induction l using snoc_ind with
  | h0 => simp [keysN]
  | hs l h ih =>
    obtain ⟨i1, i2⟩ := ih
    have hnd : (l ++ [h]).Nodup ↔ l.Nodup ∧ h ∉ l := by
      rw [List.nodup_append]
      constructor
      · rintro ⟨a, -, b⟩
        exact ⟨a, fun hm => b h hm h (by simp) rfl⟩
      · rintro ⟨a, b⟩
        refine ⟨a, List.nodup_cons.2 ⟨by simp, .nil⟩, fun x hx y hy e => ?_⟩
        rw [List.mem_singleton] at hy
        subst hy; subst e; exact b hx
    rw [keys_snoc, List.length_append, List.length_singleton, hnd]
    split
    · rename_i hm
      have hm' := (keys_mem l h).1 hm
      refine ⟨by omega, ?_⟩
      constructor
      · intro e; omega
      · rintro ⟨-, b⟩; exact absurd hm' b
    · rename_i hm
      have hm' : h ∉ l := fun x => hm ((keys_mem l h).2 x)
      rw [List.length_append, List.length_singleton]
      refine ⟨by omega, ?_⟩
      constructor
      · intro e; exact ⟨i2.1 (by omega), hm'⟩
      · rintro ⟨a, -⟩; rw [i2.2 a]
theorem all_keys (l : List Bys) : (allA l).map (·.1) = keysN (l.map shaF) := by
  induction l using snoc_ind with
  | h0 => rfl
  | hs l c ih =>
    rw [allA, List.foldl_append, List.map_append]
    show (insA (allA l) (shaF c) (heldV c)).map (·.1) = keysN (l.map shaF ++ [shaF c])
    rw [insA_keys, ih, keys_snoc]
theorem all_len (l : List Bys) : ((allA l).length = l.length) ↔ (l.map shaF).Nodup := by
  have h1 := congrArg List.length (all_keys l)
  rw [List.length_map] at h1
  rw [h1, ← (keys_len (l.map shaF)).2, List.length_map]
theorem all_le (l : List Bys) : (allA l).length ≤ l.length := by
  have h1 := congrArg List.length (all_keys l)
  rw [List.length_map] at h1
  rw [h1]
  have := (keys_len (l.map shaF)).1
  rwa [List.length_map] at this
theorem all_has (l : List Bys) (h : Bys) : ((allA l).lookup h).isSome = true ↔ h ∈ l.map shaF := by
  rw [lookup_mem, all_keys, keys_mem]
/-- The map of the chunks that were met. -/
def metA (l : List Bys) : List (List UInt8 × Value) := l.foldl (fun A c => insA A (shaF c) (.int .i64 1)) []
theorem met_up (l : List Bys) {i : Nat} (h : i < l.length) : metA (l.take (i + 1)) = insA (metA (l.take i)) (shaF l[i]) (.int .i64 1) := by
  rw [metA, List.take_succ_eq_append_getElem h, List.foldl_append]; rfl
theorem met_look (l : List Bys) (h : Bys) : (metA l).lookup h = if h ∈ l.map shaF then some (.int .i64 1) else none := by
  induction l using snoc_ind with
  | h0 => rfl
  | hs l c ih =>
    rw [metA, List.foldl_append]
    show (insA (metA l) (shaF c) (.int .i64 1)).lookup h = _
    rw [insA_lookup, ih]
    by_cases e : h = shaF c
    · rw [if_pos e, if_pos (by simp [e])]
    · rw [if_neg e]
      by_cases hm : h ∈ l.map shaF
      · rw [if_pos hm, if_pos (by rw [List.map_append]; exact List.mem_append_left _ hm)]
      · rw [if_neg hm, if_neg (by rw [List.map_append, List.mem_append]; rintro (h1 | h1)
                                  · exact hm h1
                                  · exact e (by simpa using h1))]
end Go.Proofs.YtdkonngkbbgcgaaGreatDoor
