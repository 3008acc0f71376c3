/- The law BitsTakes, as its card states it: for every page of bytes and every number the function of the law returns true, and the page reads behind the call as it read before. The package's table of the least bit is laid by the program's text. -/
import Derived.Test.YtlmcghiplgebkaaDoorBitl
import Derived.Test.YtlmcghiplgebkaaDoorCards
import Derived.Test.YtlmcghiplgebkaaDoorTie
import Derived.WalkKit
import Derived.ProofKit
import Derived.OpenShut
import Derived.Below
import Derived.Carry
import Derived.Deep.DeepHandedRow
import Derived.Lib.LaidTab
namespace Go.Proofs.YtlmcghiplgebkaaDoor.bitsTakes
open Go.ChangeShapes Go.WideShapes Go.ChangeAt Go.RowKit Go.Eng Go.Eng.Bm Go.Proofs.YtlmcghiplgebkaaDoor
theorem own : ownKnob Tryd.prog.godebug = none := by kernel_rfl
theorem laidOut : laidOutB Tryd.prog = true := by kernel_rfl
theorem gTab : Tryd.prog.globalNamed "math/bits.deBruijn64tab" = some 0 := by kernel_rfl
theorem gTabType : (Tryd.prog.globals[0]?).map (·.type) = some 54 := by kernel_rfl
theorem cellsT : Tryd.prog.cellsOf 54 = 64 := by kernel_rfl
theorem cells1 : Tryd.prog.cellsOf 5 = 1 := by kernel_rfl
/-- What the row's list gives: the table. -/
theorem tabW {W : World} (h : laidMetH Tryd.prog Rows.bitsTakesRow.laid W) : TabW W := fun j hj => by
  have ht : Lib.TabIs Tryd.prog W "math/bits.deBruijn64tab" .u8 (tab64.map fun n : Nat => (n : Int)) := Lib.tabIs_of_head (rest := []) gTab gTabType Tryd.underlying54 Tryd.underlying5 cells1 cellsT h
  rw [ht.cell gTab j (by simpa [tab64] using hj)]
  refine congrArg (fun z => some (Value.int .u8 z)) ?_
  simp [List.getD, List.getElem?_map]
  cases tab64[j]? <;> rfl
/-- The walk, for every page and every number. -/
theorem walk (sl : Option Addr) (L c : Nat) (bs : Nat → Nat) (hb : ∀ i, bs i < 256) (n : Int) (w : World) (ht : TabW w) (hs : BytesAt w sl L bs) :
    Pu Tryd.prog 4 #[.slice sl L c, .int .i64 n] w (.bool true) := by
  by_cases hL : 600 < L
  · exact takes_long sl L c n hL w ht
  have hL' : L ≤ 600 := by omega
  by_cases hn : n < 1 ∨ 1024 < n
  · refine takes_err 2 (by decide) sl L c bs hb n hL' w ht hs (fun w' _ => take_new sl L c n hn w') (fun w' => ?_)
    rcases hn with h | h
    · exact rtake_low _ n h w'
    · exact rtake_high _ n h w'
  obtain ⟨m, rfl⟩ : ∃ m : Nat, n = m := ⟨n.toNat, by omega⟩
  have h1 : 1 ≤ m := by omega
  have h2 : m ≤ 1024 := by omega
  by_cases hL5 : L ≠ 512
  · exact takes_err 3 (by decide) sl L c bs hb m hL' w ht hs (fun w' _ => take_len sl L c hL5 m h1 h2 w') (fun w' => rtake_len _ (by rwa [strOf_size]) m h1 h2 w')
  obtain rfl : L = 512 := by omega
  rcases hs with h0 | ⟨b, off, rfl, hcell⟩
  · cases h0
  have hbs : ∀ j, j < 4096 → bitsOf (bsOf (strOf 512 bs)) j = bitsOf bs j := fun j hj => by
    unfold bitsOf
    rw [← bsOf_eq _ _ (by rw [strOf_size]; omega), strOf_at 512 bs hb]
  rcases first_bad (bitsOf bs) m 4096 with hf | ⟨p, hp, hp1, hp2, hf⟩
  · exact takes_ok b off c bs hb m h1 h2 hf w ht hcell
  · refine takes_err 3 (by decide) _ 512 c bs hb m hL' w ht (.inr ⟨b, off, rfl, hcell⟩) (fun w' hw' => ?_) (fun w' => ?_)
    · rcases hw' with h0 | ⟨b', off', he, hc'⟩
      · cases h0
      · obtain ⟨rfl, rfl⟩ : b = b' ∧ off = off' := by simpa using he
        exact take_bad b off c bs m h1 h2 w' hc' p hp hp1 hp2 hf
    · exact rtake_bad _ (strOf_size 512 bs) m h1 h2 p hp (by rw [hbs p hp]; exact hp1) hp2 (fun j hj h => hf j hj (by rwa [hbs j (by omega)] at h)) w'
/-- What the walk gives, for every argument and every world that holds the table. -/
theorem contract (H : Type) (enc : TypeId × Value → H) (W : World) (base : Nat) (args : Array Value) (ds gs : List (DataW H)) (before : List MemPlace)
    (hval : ∀ (j : Nat) t v, Tryd.f4.params[j]? = some t → args[j]? = some v → Value.okWide Tryd.prog W .any base t v)
    (hW : DataW.Whole enc Tryd.prog Tryd.f4.params.toList Rows.bitsTakesSpec.vars false W args.toList ds gs before) (hL : laidMetH Tryd.prog Rows.bitsTakesRow.laid W) :
    Calls Tryd.prog 4 args W fun e W' => ∃ v, e = .returned v ∧ Rows.bitsTakesSpec.post enc Tryd.prog Tryd.f4 false true false false W args v W' := by
  have hW' := hW
  obtain ⟨p, q, hA0, hV, rfl, hfz, hnd⟩ := hW
  have hA : DataW.TrodAll enc Tryd.prog W 0 (fun _ => true) true Tryd.f4.params.toList args.toList ds p := hA0
  rw [Tryd.params4] at hA hval
  obtain ⟨v0, vs0, d0, ds0, p0, q0, hargs, rfl, rfl, h0, r0⟩ := trodAll_cons hA
  obtain ⟨v1, vs1, d1, ds1, p1, q1, rfl, rfl, rfl, h1, r1⟩ := trodAll_cons r0
  obtain ⟨rfl, rfl, rfl⟩ := trodAll_nil r1
  obtain rfl : args = #[v0, v1] := by cases args; simp_all
  obtain ⟨rfl, rfl⟩ := trodVars_none hV
  obtain ⟨a0, len0, cap0, rfl⟩ := okWide_slice Tryd.underlying39 (hval 0 39 v0 rfl rfl)
  have k0 := h0
  have lt0 : ∀ x ∈ p0, x.block < W.heap.size := by obtain ⟨m, hm⟩ := k0; exact DataW.trod_lt m _ _ _ hm
  obtain ⟨bs, hb, hs⟩ : ∃ bs : Nat → Nat, (∀ i, bs i < 256) ∧ BytesAt W a0 len0 bs := by
    obtain ⟨fuel, hf⟩ := h0
    rcases open_ints Tryd.underlying39 Tryd.underlying5 (by kernel_rfl) hf with ⟨hcs, _⟩ | ⟨x, l, c, zs, hcs, _, hl, hm, hz, _, hcell, hwz⟩
    · simp [Value.cells] at hcs
      obtain ⟨rfl, rfl, rfl⟩ := hcs
      exact ⟨fun _ => 0, fun _ => Nat.zero_lt_succ _, .inl rfl⟩
    · simp [Value.cells] at hcs
      obtain ⟨rfl, rfl, rfl⟩ := hcs
      refine ⟨fun i => (zs.getD i 0).toNat % 256, fun i => Nat.mod_lt _ (by decide), ?_⟩
      rcases Nat.eq_zero_or_pos len0 with h0 | h0
      · exact .inl h0
      have hz' : zs.length = cap0 := by simpa using hz
      have hsp : x.spot = none := by
        have := hcell 0 (by omega)
        unfold World.cell? at this
        split at this
        · split at this
          · cases this
          · rename_i hh
            simpa [Addr.add] using hh
        · cases this
      refine .inr ⟨x.block, x.off, by cases x; simp_all, fun i hi => ?_⟩
      have hc := hcell i (by omega)
      have hw : (Lit.int .u8 (zs.getD i 0)).wf = true := hwz _ (by
        have hi' : i < zs.length := by omega
        simp only [List.getD, List.getElem?_eq_getElem hi', Option.getD_some]
        exact List.getElem_mem hi')
      have hr : 0 ≤ zs.getD i 0 ∧ zs.getD i 0 < 256 := by
        generalize zs.getD i 0 = z at hw
        have hmin : IntKind.u8.min = 0 := rfl
        have hmax : IntKind.u8.max = 255 := rfl
        simp [Lit.wf, hmin, hmax] at hw
        omega
      have ha : x.add i = ⟨x.block, x.off + i, none⟩ := by
        unfold Addr.add
        split
        · subst i; cases x; simp_all
        · rfl
      rw [ha] at hc
      rw [hc]
      have : ((((zs.getD i 0).toNat % 256 : Nat)) : Int) = zs.getD i 0 := by omega
      rw [this]
  obtain ⟨a1, rfl, rfl, rfl, w1⟩ := open_int Tryd.underlying3 (hval 1 3 v1 rfl rfl) h1
  clear hA0 hval
  refine (walk a0 len0 cap0 bs hb a1 W (tabW hL) hs).calls.mono fun e W' ⟨he, hfr⟩ => ?_
  have bel := hfr.below
  subst he
  exact ⟨_, rfl, _, _, _, [], _, [], hW', trodAll_mk1 (shut_bool Tryd.underlying4 _), (trodAll_cons_mk (Below.trod laidOut (by kernel_rfl) (of_decide_eq_true (by kernel_rfl)) k0 bel lt0) (trodAll_cons_mk (shut_int Tryd.underlying3 w1) trodAll_mk0)), rfl, bel.frame _, fun h => by cases h⟩
/-- A world for the witness: the table (a block of its own) holds what its initialiser lays. -/
noncomputable def laidWorld (os : Os) : World :=
  { World.holding Tryd.prog os ⟨#[], #[], []⟩ with heap := (World.holding Tryd.prog os ⟨#[], #[], []⟩).heap.modify 0 fun
      | .cells _ t frozen => .cells (tab64.map fun n : Nat => Value.int .u8 (n : Int)).toArray t frozen
      | o => o }
theorem laid_met (os : Os) : laidMet Tryd.prog Rows.bitsTakesRow.laid ((laidWorld os).forCall (fun _ _ => 0) ⟨#[], #[.slice none 0 0, .int .i64 0], []⟩).memory :=
  laidMet_of_run' 8 (by kernel_rfl) (by kernel_rfl)
theorem reads (os : Os) {H : Type} (enc : TypeId × Value → H) : ∃ places, DataW.whole enc Tryd.prog ((laidWorld os).forCall (fun _ _ => 0) ⟨#[], #[.slice none 0 0, .int .i64 0], []⟩).memory Tryd.f4.params.toList Rows.bitsTakesSpec.vars false #[Value.slice none 0 0, .int .i64 0].toList 8 = some ([.nil, .lit (.int .i64 0)], [], places) :=
  ⟨[], by kernel_rfl⟩
set_option maxRecDepth 100000 in
theorem lifted (os : Os) (started : os.Started) (H : Type) (enc : TypeId × Value → H) (F : Stop.Interp) :
    ReturnsInHanded {} Tryd.checked os 4 .any ((OpenSpec.ofChange Rows.bitsTakesSpec).preRow enc Tryd.prog Tryd.f4 Rows.bitsTakesRow.domain false Rows.bitsTakesRow.laid) (((OpenSpec.ofChange Rows.bitsTakesSpec).at F).post enc Tryd.prog Tryd.f4 false true false false) := by
  obtain ⟨places, hx⟩ := reads os enc
  refine returnsInHanded_of_row (C := Tryd.checked) (s := OpenSpec.ofChange Rows.bitsTakesSpec) own started (by kernel_rfl) Tryd.func4
    (witness_row_at (enc := enc) (C := Tryd.checked) false (laidWorld os) #[.slice none 0 0, .int .i64 0] rfl (by kernel_rfl) (by kernel_rfl) (by kernel_rfl)
      (OpenSpec.preRow_of_cond 8 hx (by kernel_rfl) (fun k hk => by cases hk) (by kernel_rfl) (laid_met os))) ?_
  intro W base args ds gs before hval hW _ _ _ hL _ _
  exact contract H enc W base args ds gs before hval hW hL
theorem said : Rows.BitsTakesSaid :=
  OpenClaim.holds_of_cond 4 Tryd.f4 rfl rfl rfl rfl rfl rfl rfl ⟨rfl, rfl, rfl, rfl, rfl⟩ rfl rfl rfl rfl rfl (by kernel_rfl) Tryd.func4 (by kernel_rfl)
    (of_decide_eq_true (by kernel_rfl)) (by unfold Func.isWrapper; first | (rw [if_pos (by decide +kernel)]; kernel_rfl) | (rw [if_neg (by decide +kernel)]; exact ⟨rfl, rfl⟩))
    (fun os started H enc _ F => by rw [OpenClaim.pre_eq_preRow]; exact lifted os started H enc F)
/-- No parameter wants a stand-in; the program's own looks are off: what the card asks. -/
theorem plain (f : FuncId) (fn : Func) (hf : Tryd.pinned.checked.prog.funcNamed "armarium/armariumlaw07.BitsTakes" = some f) (hfn : Tryd.pinned.checked.prog.funcs[f]? = some fn) :
    false = Tryd.pinned.checked.prog.looks [] ∧ ∀ (j : Nat) t, fn.params[j]? = some t → Tryd.pinned.checked.prog.wantsStandIn t = false := by
  obtain rfl : f = 4 := Option.some.inj ((show Tryd.prog.funcNamed "armarium/armariumlaw07.BitsTakes" = some 4 by kernel_rfl).symm.trans hf) |>.symm
  obtain rfl : fn = Tryd.f4 := (Option.some.inj (Tryd.func4.symm.trans hfn)).symm
  refine ⟨by kernel_rfl, fun j t ht => ?_⟩
  rw [Tryd.params4] at ht
  obtain rfl | rfl : t = 39 ∨ t = 3 := by simpa using Array.mem_of_getElem? ht
  · exact (show Tryd.prog.wantsStandIn 39 = false by kernel_rfl)
  · exact (show Tryd.prog.wantsStandIn 3 = false by kernel_rfl)
/-- The card. -/
theorem card : Rows.BitsTakesCardSaid :=
  Claim7.holds_tied_plain_at .later [] _ _ _ _ said (fun _ h => by cases h) (by kernel_rfl) (fun _ h => by cases h) bitsTakes_row_tie rfl ⟨rfl, rfl⟩ (by kernel_rfl) rfl plain (by kernel_rfl)
#print axioms card
end Go.Proofs.YtlmcghiplgebkaaDoor.bitsTakes
