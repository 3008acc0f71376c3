/- law 8: PagesPlay. -/
/- pages: Open of a disk that has no store. -/
/- pages: what no store has. -/
/- law 8: PagesForm. -/
/- What the cards of layer 8 share: acts that came in; the tables as they are laid; what reads behind a call. -/
import Derived.Test.YtplhamichcnmmaaGreatDoorHb39
import Derived.Test.YtplhamichcnmmaaGreatDoorHb38
import Derived.Test.YtplhamichcnmmaaGreatDoorCards
import Derived.Test.YtplhamichcnmmaaGreatDoorTie
import Derived.WalkKit
import Derived.ProofKit
import Derived.OpenShut
import Derived.Below
import Derived.Carry
import Derived.SliceStrings
import Derived.ChangeMaps5
import Derived.Deep.DeepHandedRow
import Derived.Lay
import Derived.LaidMore
import Derived.LaidSub
import Derived.Lib.LaidU8
namespace Go.Proofs.YtplhamichcnmmaaGreatDoor
open Go.RowKit Go.Eng Go.Eng.Bm
set_option maxRecDepth 100000
set_option maxHeartbeats 40000000
end Go.Proofs.YtplhamichcnmmaaGreatDoor

namespace Go.Proofs.YtplhamichcnmmaaGreatDoor
open Go.RowKit Go.Eng Go.Eng.Bm
set_option maxRecDepth 100000
set_option maxHeartbeats 40000000
theorem read_bad (d : Dk) (ok : d.D.Ok) (hlive : d.D.dead = false) (at_ : Nat) (hat : d.D.on.length ≤ at_) (h63 : at_ < 9223372036854775808) (w : World) (h : Here (dkI d) w) :
    Pu Tryz.prog 68 #[.pointer (some ⟨d.b, 0, none⟩), .int .i64 at_] w (.tuple #[.slice none 0 0, .int .i64 2]) := by
  refine pu_of [_, _] Tryz.func68 rfl rfl ?_
  simp only [argSlots, Nat.reduceAdd]
  have hmany := ok.many
  refine goA ?_
  refine l_opg rfl (o_pure rfl (by kernel_rfl) rfl (fun w1 hw1 => power_calls d w1 (h.keep hw1))) fun _ => ?_
  rw [hlive]
  refine goA ?_
  refine l_opg rfl (o_pure rfl (by kernel_rfl) rfl (fun w1 hw1 => has_calls d at_ h63 w1 (h.keep hw1))) fun _ => ?_
  rw [if_neg (by omega)]
  refine l_op rfl (o_buildslice rfl rfl rfl rfl rfl rfl) fun ⟨bq, hbq⟩ => ?_
  refine l_opg rfl (o_pure rfl (by kernel_rfl) rfl (fun w1 hw1 => first_calls [0, 2] (some ⟨bq, 0, none⟩) 2 (by simp) w1 (own_Rd (o := some (bq, 2)) (hw1.item _ (.head _)).1))) fun _ => ?_
  rw [show firstE [0, 2] = 2 from rfl]
  refine goA ?_
  exact x_pu2 rfl rfl rfl rfl
theorem look_bad (d : Dk) (ok : d.D.Ok) (hlive : d.D.dead = false) (i : Nat) (hi : d.D.on.length ≤ i) (h63 : i < 9223372036854775808) (bx ba bb : Nat) (p : Hd × Int) (w : World) (hw : ∀ it ∈ lookI bx ba bb d p, Here it w) (ha : (lookI bx ba bb d p).Pairwise Eng.Item.Apart) :
    Ct Tryz.prog 120 #[.int .i64 i, .pointer (some ⟨bx, 0, none⟩), .pointer (some ⟨ba, 0, none⟩), .pointer (some ⟨bb, 0, none⟩)] w (foots (lookI bx ba bb d p)) (fun _ : Unit => .int .i64 2) (fun _ => True) (fun _ => lookI bx ba bb d p) := by
  refine cu_of [_, _, _, _] _ Tryz.func120 rfl rfl hw ha ?_
  have hst := lookI_stable bx ba bb d p
  unfold lookI
  simp only [argSlots, Nat.reduceAdd]
  refine goA ?_
  refine l_opg rfl (o_pure rfl (by kernel_rfl) rfl (fun w1 hw1 => read_bad d ok hlive i hi h63 w1 (Here.of (hw1.item (dkI d) (.tail _ (.tail _ (.tail _ (.head _))))) (bundle_stable _)))) fun _ => ?_
  refine goA ?_
  refine l_opg rfl (o_pure rfl (by kernel_rfl) rfl (fun w1 hw1 => htake_calls none 0 0 [] rfl (by decide) w1 (.inl rfl) (hw1.item ctI (.tail _ (.tail _ (.tail _ (.tail _ (.head _)))))).1)) fun _ => ?_
  generalize hdT [] = h
  generalize hdOk [] = k
  refine goA ?_
  refine l_alloca rfl rfl fun b8 hb8 => ?_
  refine l_op rfl (o_storea (cs' := hdA h) rfl rfl rfl rfl rfl rfl) fun _ => ?_
  refine goA ?_
  exact x_ct () rfl rfl rfl trivial (.cons _ (.refl _)) hst
theorem counts_one (d : Dk) (ok : d.D.Ok) (hlive : d.D.dead = false) (hwl : d.D.wait.length ≤ 1000000000) (h2 : d.D.on.length = 1) (w : World) (hw : ∀ it ∈ [dkI d, ctI], Here it w) (ha : [dkI d, ctI].Pairwise Eng.Item.Apart) :
    Ct Tryz.prog 87 #[.pointer (some ⟨d.b, 0, none⟩)] w (foots [dkI d, ctI]) (fun _ : Unit => .tuple #[.agg (hdA noHd), .int .i64 (-1), .int .i64 2]) (fun _ => True) (fun _ => [dkI d, ctI]) := by
  refine cu_of [_] _ Tryz.func87 rfl rfl hw ha ?_
  simp only [argSlots]
  refine goA ?_
  refine l_box1 rfl rfl rfl fun bx _ => ?_
  refine goA ?_
  refine l_alloca rfl rfl fun b2 hb2 => ?_
  refine goA ?_
  refine l_alloca rfl rfl fun b5 hb5 => ?_
  refine goA ?_
  refine l_alloc1 rfl rfl rfl fun b6 hb6 => ?_
  refine goA ?_
  refine l_op rfl (ho_perm (bring1 _ _ _) (o_storea (cs' := hdA noHd) rfl rfl rfl rfl rfl rfl)) fun _ => ?_
  refine goA ?_
  refine l_op rfl (ho_perm (bring1 _ _ _) (o_store1 rfl rfl rfl rfl rfl rfl (by simp))) fun _ => ?_
  refine goA ?_
  refine l_w rfl (v_mkf rfl) ?_
  refine goA ?_
  refine t_for (α := Nat) (fun i => [(2, .pointer (some ⟨b2, 0, none⟩)), (3, .int .i64 0), (4, .int .i64 0), (5, .pointer (some ⟨b5, 0, none⟩)), (6, .pointer (some ⟨b6, 0, none⟩)), (7, .func (.func 120) #[] #[.pointer (some ⟨bx, 0, none⟩), .pointer (some ⟨b6, 0, none⟩), .pointer (some ⟨b5, 0, none⟩)]), (12, .int .i64 i)]) (fun i => i ≤ 1)
    (fun i => lookI bx b6 b5 d (lookN d.D i) ++ [pt b2 (.cells (hdA noHd) 126 (0, 0))]) (fun i => 2 - i) 0 ⟨rfl, rfl, rfl, rfl, rfl, rfl, rfl, trivial⟩ (Nat.zero_le _) (fun w' hw' => hw'.pick [0, 1, 3, 4, 5, 2] rfl rfl) fun i hi => ?_
  have hl : lookN d.D (i + 1) = lookF (curF d.D i) i (lookN d.D i) := rfl
  by_cases h0 : i = 0
  · subst h0
    refine goA ?_
    refine l_opg rfl (o_cuF (pre := lookI bx b6 b5 d (lookN d.D 0)) (fs := []) (cs := [.pointer (some ⟨bx, 0, none⟩), .pointer (some ⟨b6, 0, none⟩), .pointer (some ⟨b5, 0, none⟩)]) rfl (by kernel_rfl) rfl rfl rfl (lookI_stable _ _ _ _ _) (fun w1 hw1 hh1 ha1 => look_calls d ok hlive hwl 0 (by omega) bx b6 b5 (lookN d.D 0) w1 hh1 ha1)) fun ⟨_, _⟩ => ?_
    rw [← hl]
    refine goA ?_
    exact x_round 1 ⟨rfl, rfl, rfl, rfl, rfl, rfl, rfl, trivial⟩ (show 1 ≤ 1 by omega) (fun w' hw' => hw') (by decide)
  · obtain rfl : i = 1 := by omega
    refine goA ?_
    refine l_opg rfl (o_cuF (pre := lookI bx b6 b5 d (lookN d.D 1)) (fs := []) (cs := [.pointer (some ⟨bx, 0, none⟩), .pointer (some ⟨b6, 0, none⟩), .pointer (some ⟨b5, 0, none⟩)]) rfl (by kernel_rfl) rfl rfl rfl (lookI_stable _ _ _ _ _) (fun w1 hw1 hh1 ha1 => look_bad d ok hlive 1 (by omega) (by decide) bx b6 b5 (lookN d.D 1) w1 hh1 ha1)) fun ⟨_, _⟩ => ?_
    unfold lookI
    generalize lookN d.D 1 = q
    simp only [List.cons_append, List.nil_append]
    refine goA ?_
    refine l_op rfl (ho_perm (bring5 _ _ _ _ _ _ _) (o_storea (cs' := hdA noHd) rfl rfl rfl rfl rfl rfl)) fun _ => ?_
    refine goA ?_
    exact x_ct3 () rfl ⟨_, rfl, loada_run rfl (.head _)⟩ rfl rfl rfl trivial (.cons _ (.cons _ (.cons _ (.cons _ (.refl _))))) (dc_stable d)
theorem fcounts_calls (d : Dk) (N : Nat) (hd : d.D = newD N) (h1 : 1 ≤ N) (hN : N ≤ 4096) (w : World) (hw : ∀ it ∈ [dkI d, ctI], Here it w) (ha : [dkI d, ctI].Pairwise Eng.Item.Apart) :
    Ct Tryz.prog 87 #[.pointer (some ⟨d.b, 0, none⟩)] w (foots [dkI d, ctI]) (fun _ : Unit => .tuple #[.agg (hdA noHd), .int .i64 (-1), .int .i64 (if N = 1 then 2 else 0 : Nat)]) (fun _ => True) (fun _ => [dkI d, ctI]) := by
  have ok : d.D.Ok := by rw [hd]; exact newD_ok hN
  have hlive : d.D.dead = false := by rw [hd]; rfl
  have hwl : d.D.wait.length ≤ 1000000000 := by rw [hd]; exact Nat.zero_le _
  have hlen : d.D.on.length = N := by rw [hd]; exact List.length_replicate
  by_cases hN1 : N = 1
  · rw [if_pos hN1]
    exact counts_one d ok hlive hwl (by omega) w hw ha
  · rw [if_neg hN1]
    have hlk : lookN d.D 2 = (noHd, -1) := by rw [hd]; exact look_none rfl fun i hi => newD_at (by omega)
    have := counts_calls d ok hlive hwl (by omega) w hw ha
    rw [hlk] at this
    exact this
theorem fwopen_calls (d : Dk) (N : Nat) (hd : d.D = newD N) (h1 : 1 ≤ N) (hN : N ≤ 4096) (w : World) (hw : ∀ it ∈ [dkI d, ctI], Here it w) (ha : [dkI d, ctI].Pairwise Eng.Item.Apart) :
    Ct Tryz.prog 41 #[.pointer (some ⟨d.b, 0, none⟩)] w (foots [dkI d, ctI]) (fun _ : Unit => .tuple #[.pointer none, .slice none 0 0, .int .i64 (if N = 1 then 2 else 12 : Nat)]) (fun _ => True) (fun _ => [dkI d, ctI]) := by
  refine cu_of [_] _ Tryz.func41 rfl rfl hw ha ?_
  simp only [argSlots]
  refine goA ?_
  refine l_opg rfl (o_cu (pre := [dkI d, ctI]) rfl (by kernel_rfl) rfl (dc_stable d) (fun w1 hw1 hh1 ha1 => fcounts_calls d N hd h1 hN w1 hh1 ha1)) fun ⟨_, _⟩ => ?_
  by_cases hN1 : N = 1
  · simp only [if_pos hN1]
    refine goA ?_
    refine l_alloca rfl rfl fun b5 hb5 => ?_
    refine l_op rfl (o_storea (cs' := hdA noHd) rfl rfl rfl rfl rfl rfl) fun _ => ?_
    refine goA ?_
    exact x_ct3 () rfl rfl rfl rfl rfl trivial (.cons _ (.refl _)) (dc_stable d)
  · simp only [if_neg hN1]
    refine goA ?_
    refine l_alloca rfl rfl fun b5 hb5 => ?_
    refine l_op rfl (o_storea (cs' := hdA noHd) rfl rfl rfl rfl rfl rfl) fun _ => ?_
    refine goA ?_
    refine t_drawm [0, 1, 2] 16 rfl rfl (by kernel_rfl) ?_
    refine goE ?_
    refine d_end (by kernel_rfl) ?_
    refine goA ?_
    exact x_ct3 () rfl rfl rfl rfl rfl trivial (.cons _ (.refl _)) (dc_stable d)
theorem fopen_calls (d : Dk) (N : Nat) (hd : d.D = newD N) (h1 : 1 ≤ N) (hN : N ≤ 4096) (w : World) (hw : ∀ it ∈ [dkI d, ctI], Here it w) (ha : [dkI d, ctI].Pairwise Eng.Item.Apart) :
    Ct Tryz.prog 11 #[.pointer (some ⟨d.b, 0, none⟩)] w (foots [dkI d, ctI]) (fun _ : Unit => .tuple #[.pointer none, .int .i64 (if N = 1 then 2 else 12 : Nat)]) (fun _ => True) (fun _ => [dkI d, ctI]) := by
  refine cu_of [_] _ Tryz.func11 rfl rfl hw ha ?_
  simp only [argSlots]
  refine goA ?_
  refine l_opg rfl (o_cu (pre := [dkI d, ctI]) (m := []) rfl (by kernel_rfl) rfl (dc_stable d) (fun w1 hw1 hh1 ha1 => fwopen_calls d N hd h1 hN w1 hh1 ha1)) fun ⟨_, _⟩ => ?_
  by_cases hN1 : N = 1
  · simp only [if_pos hN1]
    refine goA ?_
    exact x_ct2 () rfl rfl rfl rfl trivial (.refl _) (dc_stable d)
  · simp only [if_neg hN1]
    refine goA ?_
    exact x_ct2 () rfl rfl rfl rfl trivial (.refl _) (dc_stable d)
end Go.Proofs.YtplhamichcnmmaaGreatDoor

namespace Go.Proofs.YtplhamichcnmmaaGreatDoor
open Go.RowKit Go.Eng Go.Eng.Bm
set_option maxRecDepth 100000
set_option maxHeartbeats 40000000
theorem nmay_calls (i : Int) (w : World) : Pu Tryz.prog 67 #[.pointer none, .int .i64 i] w (.int .i64 1) := by
  refine pu_of [_, _] Tryz.func67 rfl rfl ?_
  simp only [argSlots, Nat.reduceAdd]
  refine goA ?_
  exact x_pu rfl rfl rfl
theorem npage_calls (i : Int) (w : World) : Pu Tryz.prog 19 #[.pointer none, .int .i64 i] w (.tuple #[.slice none 0 0, .int .i64 1]) := by
  refine pu_of [_, _] Tryz.func19 rfl rfl ?_
  simp only [argSlots, Nat.reduceAdd]
  refine goA ?_
  refine l_opg rfl (o_pure rfl (by kernel_rfl) rfl (fun w1 hw1 => nmay_calls i w1)) fun _ => ?_
  refine goA ?_
  exact x_pu2 rfl rfl rfl rfl
theorem nused_calls (w : World) : Pu Tryz.prog 54 #[.pointer none] w (.tuple #[.agg (mapC 0 noS), .int .i64 1]) := by
  refine pu_of [_] Tryz.func54 rfl rfl ?_
  simp only [argSlots]
  refine goA ?_
  refine l_alloca rfl rfl fun b2 hb2 => ?_
  refine goA ?_
  refine l_opg rfl (o_pure rfl (by kernel_rfl) rfl (fun w1 hw1 => npage_calls 0 w1)) fun _ => ?_
  refine goA ?_
  refine l_op rfl (o_storea rfl rfl rfl rfl rfl rfl) fun _ => ?_
  refine goA ?_
  exact x_pu2 rfl ⟨_, rfl, loada_run rfl (.head _)⟩ rfl (by kernel_rfl)
theorem nalloc_calls (w : World) : Pu Tryz.prog 20 #[.pointer none] w (.tuple #[.int .i64 0, .int .i64 1]) := by
  refine pu_of [_] Tryz.func20 rfl rfl ?_
  simp only [argSlots]
  refine goA ?_
  refine l_opg rfl (o_pure rfl (by kernel_rfl) rfl (fun w1 hw1 => nused_calls w1)) fun _ => ?_
  refine goA ?_
  refine l_alloca rfl rfl fun b4 hb4 => ?_
  refine l_op rfl (o_storea (cs' := mapC 0 noS) rfl rfl rfl (by rw [mapC_size]; rfl) (mapC_one _ _) (by rw [mapC_size]; rfl)) fun _ => ?_
  refine goA ?_
  exact x_pu2 rfl rfl rfl rfl
theorem nabort_calls (w : World) : Pu Tryz.prog 21 #[.pointer none] w (.tuple #[]) := by
  refine pu_of [_] Tryz.func21 rfl rfl ?_
  simp only [argSlots]
  refine goA ?_
  exact x_end0 rfl fun _ hw => ⟨rfl, hw.fr⟩
theorem nput_calls (w : World) : Pu Tryz.prog 22 #[.pointer none, .int .i64 1, .slice none 0 0] w (.int .i64 1) := by
  refine pu_of [_, _, _] Tryz.func22 rfl rfl ?_
  simp only [argSlots, Nat.reduceAdd]
  refine goA ?_
  refine l_opg rfl (o_pure rfl (by kernel_rfl) rfl (fun w1 hw1 => nmay_calls 1 w1)) fun _ => ?_
  refine goA ?_
  exact x_pu rfl rfl rfl
theorem nfree_calls (w : World) : Pu Tryz.prog 23 #[.pointer none, .int .i64 1] w (.int .i64 1) := by
  refine pu_of [_, _] Tryz.func23 rfl rfl ?_
  simp only [argSlots, Nat.reduceAdd]
  refine goA ?_
  refine l_opg rfl (o_pure rfl (by kernel_rfl) rfl (fun w1 hw1 => nmay_calls 1 w1)) fun _ => ?_
  refine goA ?_
  exact x_pu rfl rfl rfl
theorem ncommit_calls (w : World) : Pu Tryz.prog 24 #[.pointer none] w (.int .i64 1) := by
  refine pu_of [_] Tryz.func24 rfl rfl ?_
  simp only [argSlots]
  refine goA ?_
  exact x_pu rfl rfl rfl
theorem nUsed_calls (w : World) : Pu Tryz.prog 18 #[.pointer none] w (.int .i64 0) := by
  refine pu_of [_] Tryz.func18 rfl rfl ?_
  simp only [argSlots]
  refine goA ?_
  refine l_opg rfl (o_pure rfl (by kernel_rfl) rfl (fun w1 hw1 => nused_calls w1)) fun _ => ?_
  refine goA ?_
  refine l_alloca rfl rfl fun b4 hb4 => ?_
  refine l_op rfl (o_storea (cs' := mapC 0 noS) rfl rfl rfl (by rw [mapC_size]; rfl) (mapC_one _ _) (by rw [mapC_size]; rfl)) fun _ => ?_
  refine goA ?_
  refine l_opg rfl (o_pure rfl (by kernel_rfl) rfl (fun w1 hw1 => mused_calls 0 noS w1)) fun _ => ?_
  rw [show cnt noS 1024 = 0 from cnt_canon (n := 0) (fun _ _ => rfl) 1024]
  refine goA ?_
  exact x_pu rfl rfl rfl
theorem nchanged_calls (w : World) : Pu Tryz.prog 25 #[.pointer none] w (.int .i64 0) := by
  refine pu_of [_] Tryz.func25 rfl rfl ?_
  simp only [argSlots]
  refine goA ?_
  exact x_pu rfl rfl rfl
theorem ndisk_calls (w : World) : Pu Tryz.prog 26 #[.pointer none] w (.pointer none) := by
  refine pu_of [_] Tryz.func26 rfl rfl ?_
  simp only [argSlots]
  refine goA ?_
  exact x_pu rfl rfl rfl
theorem npages_calls (w : World) : Pu Tryz.prog 16 #[.pointer none] w (.int .i64 0) := by
  refine pu_of [_] Tryz.func16 rfl rfl ?_
  simp only [argSlots]
  refine goA ?_
  exact x_pu rfl rfl rfl
theorem nbehind_calls (w : World) : Pu Tryz.prog 17 #[.pointer none] w (.int .i64 0) := by
  refine pu_of [_] Tryz.func17 rfl rfl ?_
  simp only [argSlots]
  refine goA ?_
  exact x_pu rfl rfl rfl
theorem nnote_calls (w : World) : Pu Tryz.prog 15 #[.pointer none] w (.string ⟨#[]⟩) := by
  refine pu_of [_] Tryz.func15 rfl rfl ?_
  simp only [argSlots]
  refine goA ?_
  exact x_pu rfl rfl rfl
theorem nwopen_calls (w : World) : Pu Tryz.prog 41 #[.pointer none] w (.tuple #[.pointer none, .slice none 0 0, .int .i64 1]) := by
  refine pu_of [_] Tryz.func41 rfl rfl ?_
  simp only [argSlots]
  refine goA ?_
  exact x_res3 rfl rfl rfl rfl fun _ hw => ⟨rfl, hw.fr⟩
theorem npopen_calls (w : World) : Pu Tryz.prog 11 #[.pointer none] w (.tuple #[.pointer none, .int .i64 1]) := by
  refine pu_of [_] Tryz.func11 rfl rfl ?_
  simp only [argSlots]
  refine goA ?_
  refine l_opg rfl (o_pure rfl (by kernel_rfl) rfl (fun w1 hw1 => nwopen_calls w1)) fun _ => ?_
  refine goA ?_
  exact x_pu2 rfl rfl rfl rfl
end Go.Proofs.YtplhamichcnmmaaGreatDoor

namespace Go.Eng
open Go.RowKit
theorem l_share {P : Program} {Q : Exit → Act → World → Prop} {N : Fm} {w0 : World} {F : Nat → Prop} {ops : Array Oper} {rest : List Oper} {G : Prop} (L : Slots) (M : List Item)
    (k : HL P ops Q N rest L (Hp w0 F M)) (h : (∀ l', Has l' L → HL P ops Q N rest l' (Hp w0 F M)) → G) : G :=
  h fun l' hl => by
    unfold HL at k ⊢
    exact fun a w s hw => k a w ⟨s.size, s.defers, fun t v hv => s.slot t v (get_has hl hv)⟩ hw
end Go.Eng
namespace Go.Proofs.YtplhamichcnmmaaGreatDoor
open Go.RowKit Go.Eng Go.Eng.Bm
set_option maxRecDepth 100000
set_option maxHeartbeats 40000000
theorem known_S0 : cnt (upd noU 0 true) 1024 = 1 := by
  rw [show (1024 : Nat) = 1 + 1023 from rfl, cnt_canon (n := 1) (fun j hj => by unfold upd noU; rw [if_neg (by omega)]) 1023]
  rfl

theorem form_calls (N : Nat) (hN : N < 65536) (log n : Int) (hlog : -9223372036854775808 ≤ log ∧ log < 9223372036854775808) (hnn : -9223372036854775808 ≤ n ∧ n < 9223372036854775808) (note : Bys) (hno : note.length ≤ 9223372036854775807) (w : World) (hw : ∀ it ∈ [ctI, tzI], Here it w) (ha : [ctI, tzI].Pairwise Eng.Item.Apart) :
    Ct Tryz.prog 4 #[.int .u16 (N : Int), .int .i64 log, .int .i64 n, .string ⟨note.toArray⟩] w (foots [ctI, tzI]) (fun _ : Unit => .bool true) (fun _ => True) (fun _ => [ctI, tzI]) := by
  refine cu_of [_, _, _, _] _ Tryz.func4 rfl rfl hw ha ?_
  have hbl := bal note
  simp only [argSlots, Nat.reduceAdd]
  refine goA ?_
  by_cases hgo : N < 1 ∨ 1500 < N ∨ 100 < note.length
  · by_cases h1 : N < 1
    · refine goA ?_
      refine l_opg rfl (o_cu (pre := [ctI, tzI]) rfl (by kernel_rfl) rfl ct_tz_stable (fun w1 hw1 hh1 ha1 => wakes_calls w1 hh1 ha1)) fun ⟨_, _⟩ => ?_
      refine goA ?_
      exact x_ct () rfl rfl rfl trivial (.refl _) ct_tz_stable
    · by_cases h2 : 1500 < N
      · refine goA ?_
        refine l_opg rfl (o_cu (pre := [ctI, tzI]) rfl (by kernel_rfl) rfl ct_tz_stable (fun w1 hw1 hh1 ha1 => wakes_calls w1 hh1 ha1)) fun ⟨_, _⟩ => ?_
        refine goA ?_
        exact x_ct () rfl rfl rfl trivial (.refl _) ct_tz_stable
      · have h3 : 100 < note.length := by omega
        refine goA ?_
        refine l_opg rfl (o_cu (pre := [ctI, tzI]) rfl (by kernel_rfl) rfl ct_tz_stable (fun w1 hw1 hh1 ha1 => wakes_calls w1 hh1 ha1)) fun ⟨_, _⟩ => ?_
        refine goA ?_
        exact x_ct () rfl rfl rfl trivial (.refl _) ct_tz_stable
  · have h1 : ¬ N < 1 := by omega
    have h2 : ¬ 1500 < N := by omega
    have h3 : ¬ 100 < note.length := by omega
    refine goA ?_
    refine l_ctg rfl rfl (by kernel_rfl) rfl (fun w1 hw1 => dnew_calls N (by omega) w1) fun x hx => ?_
    simp only [List.cons_append, List.nil_append]
    refine goA ?_
    refine l_opg rfl (o_cu (pre := [dkI x, ctI]) rfl (by kernel_rfl) rfl (dc_stable x) (fun w1 hw1 hh1 ha1 => fopen_calls x N hx (by omega) (by omega) w1 hh1 ha1)) fun ⟨_, _⟩ => ?_
    simp only [List.cons_append, List.nil_append]
    refine goA ?_
    refine l_share (P := Tryz.prog) (ops := ?o1) (Q := ?q1) (N := ?n1) (rest := ?r1) (w0 := w) (F := foots [ctI, tzI]) [(1, .int .i64 log), (2, .int .i64 n), (3, .string ⟨note.toArray⟩), (17, .pointer none)] [ctI, tzI] ?k1 (fun htail => ?h1)
    case h1 =>
      by_cases hmay : 96 ≤ log ∧ log ≤ 512 ∧ 64 ≤ n ∧ n ≤ 1024 ∧ note.length ≤ 40 ∧ 2 + log + n ≤ N
      · obtain ⟨m1, m2, m3, m4, m5, m6⟩ := hmay
        obtain ⟨lg, rfl⟩ := Int.eq_ofNat_of_zero_le (show 0 ≤ log by omega)
        obtain ⟨nn, rfl⟩ := Int.eq_ofNat_of_zero_le (show 0 ≤ n by omega)
        rw [if_neg (show ¬ N = 1 by omega)]
        refine goA ?_
        refine l_opg rfl (o_cu (pre := [dkI x, ctI]) rfl (by kernel_rfl) rfl (dc_stable x) (fun w1 hw1 hh1 ha1 => fmtnew_calls x N lg nn note hx (by omega) (by omega) (by omega) (by omega) (by omega) m5 (by omega) w1 hh1 ha1)) fun ⟨d1, k1, f2, f3, f6, f4, hh, f5⟩ => ?_
        simp only [List.cons_append, List.nil_append]
        refine goA ?_
        rw [decide_eq_true (p := ((2 + lg + nn : Nat) : Int) ≤ (N : Int)) (by omega)]
        refine l_w rfl (v_neb (a := true) (b := true) rfl rfl rfl) ?_
        refine goA ?_
        rw [← k1]
        refine l_opg rfl (o_cu (pre := [dkI d1, ctI]) rfl (by kernel_rfl) rfl (dc_stable d1) (fun w1 hw1 hh1 ha1 => popen_calls d1 nn lg note (V0 nn) 1 f6 f2 f4 (by decide) ⟨_, _, _, f5⟩ ⟨_, by rw [List.getD_eq_getElem?_getD, V0_at (by omega)]; exact bm0_ok nn (by omega)⟩ w1 hh1 ha1)) fun ⟨⟨d2, so⟩, hd2⟩ => ?_
        obtain ⟨q1, q2⟩ := hd2
        cases so with
        | none => exact absurd f3 q2.1
        | some s2 =>
          obtain ⟨q2, hst⟩ := q2
          rw [show oqV (d2, some s2) = .tuple #[.pointer (some ⟨s2.b, 0, none⟩), .int .i64 ((0 : Nat) : Int)] from rfl]
          simp only [oqI, List.cons_append, List.nil_append]
          have hview : viewF (V0 nn) [] 0 = bm0 nn := by show (V0 nn).getD 0 [] = _; rw [List.getD_eq_getElem?_getD, V0_at (by omega)]; rfl
          have hn2 := hst.hn
          have hsecs2 : s2.g.h.secs = lg := by obtain ⟨TS, h1⟩ := hst.st; exact h1.hsecs
          have hnote2 : s2.note = note := by obtain ⟨TS, h1⟩ := hst.st; exact h1.hnote
          refine goA ?_
          refine l_opg rfl (o_pure rfl (by kernel_rfl) rfl (fun w1 hw1 => pgnote_calls s2 d2 w1 (Here.of (hw1.item (pgI s2 d2) (by repeat first | exact .head _ | apply List.Mem.tail)) (pgI_stable s2 d2)))) fun _ => ?_
          rw [hnote2]
          refine goA ?_
          refine l_opg rfl (o_pure rfl (by kernel_rfl) rfl (fun w1 hw1 => pgpages_calls s2 d2 w1 (Here.of (hw1.item (pgI s2 d2) (by repeat first | exact .head _ | apply List.Mem.tail)) (pgI_stable s2 d2)))) fun _ => ?_
          rw [hn2]
          refine goA ?_
          refine l_opg rfl (o_pure rfl (by kernel_rfl) rfl (fun w1 hw1 => pgbehind_calls s2 d2 (by omega) (by omega) w1 (Here.of (hw1.item (pgI s2 d2) (by repeat first | exact .head _ | apply List.Mem.tail)) (pgI_stable s2 d2)))) fun _ => ?_
          rw [hn2, hsecs2]
          refine goA ?_
          refine l_opg rfl (o_cu (pre := [pgI s2 d2, dkI d2]) rfl (by kernel_rfl) rfl (pd_stable s2 d2) (fun w1 hw1 hh1 ha1 => pgusedn_calls s2 d2 hst.siz.ok hst.rest.live (by rw [hst.rest.wait]; decide) hst.dead hst.ok (by omega) (upd noU 0 true) (by rw [hst.pageB (by omega), hview, hn2]; rfl) (by rw [hn2]; exact (bm0_ok nn (by omega)).2.1) rfl w1 hh1 ha1)) fun ⟨_, _⟩ => ?_
          rw [known_S0]
          simp only [List.cons_append, List.nil_append]
          refine goA ?_
          refine l_pick [2, 3] rfl rfl ?_
          refine htail _ ?_; exact ⟨rfl, rfl, rfl, rfl, trivial⟩
      · have hx' : x.D.on.length = N := by rw [hx]; exact List.length_replicate
        refine l_share (P := Tryz.prog) (ops := ?o2) (Q := ?q2) (N := ?n2) (rest := ?r2) (w0 := w) (F := foots [ctI, tzI]) [(0, .int .u16 (N : Int)), (1, .int .i64 log), (2, .int .i64 n), (3, .string ⟨note.toArray⟩), (9, .pointer (some ⟨x.b, 0, none⟩)), (12, .int .i64 (if N = 1 then 2 else 12 : Nat)), (13, .int .i64 2), (14, .bool false), (82, .bool false), (84, .bool ((2 : Int) == 0))] [dkI x, ctI, tzI] ?k2 (fun hmid => ?h2)
        case h2 =>
          by_cases c1 : log < 96
          · refine goA ?_
            refine l_opg rfl (o_pure rfl (by kernel_rfl) rfl (fun w1 hw1 => pgformat_bad x log n note (by omega) (by omega) (by rw [hx']; exact hmay) w1 (Here.of (hw1.item (dkI x) (by repeat first | exact .head _ | apply List.Mem.tail)) (bundle_stable _)))) fun _ => ?_
            refine goA ?_
            refine hmid _ ?_; exact ⟨rfl, rfl, rfl, rfl, rfl, rfl, rfl, rfl, rfl, rfl, trivial⟩
          · by_cases c2 : 512 < log
            · refine goA ?_
              refine l_opg rfl (o_pure rfl (by kernel_rfl) rfl (fun w1 hw1 => pgformat_bad x log n note (by omega) (by omega) (by rw [hx']; exact hmay) w1 (Here.of (hw1.item (dkI x) (by repeat first | exact .head _ | apply List.Mem.tail)) (bundle_stable _)))) fun _ => ?_
              refine goA ?_
              refine hmid _ ?_; exact ⟨rfl, rfl, rfl, rfl, rfl, rfl, rfl, rfl, rfl, rfl, trivial⟩
            · by_cases c3 : n < 64
              · refine goA ?_
                refine l_opg rfl (o_pure rfl (by kernel_rfl) rfl (fun w1 hw1 => pgformat_bad x log n note (by omega) (by omega) (by rw [hx']; exact hmay) w1 (Here.of (hw1.item (dkI x) (by repeat first | exact .head _ | apply List.Mem.tail)) (bundle_stable _)))) fun _ => ?_
                refine goA ?_
                refine hmid _ ?_; exact ⟨rfl, rfl, rfl, rfl, rfl, rfl, rfl, rfl, rfl, rfl, trivial⟩
              · by_cases c4 : 1024 < n
                · refine goA ?_
                  refine l_opg rfl (o_pure rfl (by kernel_rfl) rfl (fun w1 hw1 => pgformat_bad x log n note (by omega) (by omega) (by rw [hx']; exact hmay) w1 (Here.of (hw1.item (dkI x) (by repeat first | exact .head _ | apply List.Mem.tail)) (bundle_stable _)))) fun _ => ?_
                  refine goA ?_
                  refine hmid _ ?_; exact ⟨rfl, rfl, rfl, rfl, rfl, rfl, rfl, rfl, rfl, rfl, trivial⟩
                · obtain ⟨lg, rfl⟩ := Int.eq_ofNat_of_zero_le (show 0 ≤ log by omega)
                  obtain ⟨nn, rfl⟩ := Int.eq_ofNat_of_zero_le (show 0 ≤ n by omega)
                  by_cases c5 : 40 < note.length
                  · refine goA ?_
                    refine l_opg rfl (o_pure rfl (by kernel_rfl) rfl (fun w1 hw1 => pgformat_bad x lg nn note (by omega) (by omega) (by rw [hx']; exact hmay) w1 (Here.of (hw1.item (dkI x) (by repeat first | exact .head _ | apply List.Mem.tail)) (bundle_stable _)))) fun _ => ?_
                    refine goA ?_
                    refine hmid _ ?_; exact ⟨rfl, rfl, rfl, rfl, rfl, rfl, rfl, rfl, rfl, rfl, trivial⟩
                  · have c6 : ¬ ((2 + lg + nn : Nat) : Int) ≤ (N : Int) := by omega
                    refine goA ?_
                    refine l_opg rfl (o_pure rfl (by kernel_rfl) rfl (fun w1 hw1 => pgformat_bad x lg nn note (by omega) (by omega) (by rw [hx']; exact hmay) w1 (Here.of (hw1.item (dkI x) (by repeat first | exact .head _ | apply List.Mem.tail)) (bundle_stable _)))) fun _ => ?_
                    refine goA ?_
                    rw [decide_eq_false c6]
                    refine hmid _ ?_; exact ⟨rfl, rfl, rfl, rfl, rfl, rfl, rfl, rfl, rfl, rfl, trivial⟩
        case k2 =>
          refine l_w rfl (v_neb (a := false) (b := false) rfl rfl rfl) ?_
          by_cases hN1 : N = 1
          · subst hN1
            refine goA ?_
            refine l_opg rfl (o_cu (pre := [dkI x, ctI]) rfl (by kernel_rfl) rfl (dc_stable x) (fun w1 hw1 hh1 ha1 => fopen_calls x 1 hx (by omega) (by omega) w1 hh1 ha1)) fun ⟨_, _⟩ => ?_
            simp only [List.cons_append, List.nil_append]
            refine goA ?_
            refine l_pick [1, 2] rfl rfl ?_
            refine htail _ ?_; exact ⟨rfl, rfl, rfl, rfl, trivial⟩
          · rw [if_neg hN1]
            refine goA ?_
            refine l_opg rfl (o_cu (pre := [dkI x, ctI]) rfl (by kernel_rfl) rfl (dc_stable x) (fun w1 hw1 hh1 ha1 => fopen_calls x N hx (by omega) (by omega) w1 hh1 ha1)) fun ⟨_, _⟩ => ?_
            simp only [List.cons_append, List.nil_append]
            refine goA ?_
            refine l_pick [1, 2] rfl rfl ?_
            refine htail _ ?_; exact ⟨rfl, rfl, rfl, rfl, trivial⟩
    case k1 =>
      refine l_opg rfl (o_pure rfl (by kernel_rfl) rfl (fun w1 hw1 => npopen_calls w1)) fun _ => ?_
      refine goA ?_
      refine l_opg rfl (o_pure rfl (by kernel_rfl) rfl (fun w1 hw1 => npage_calls 0 w1)) fun _ => ?_
      refine goA ?_
      refine l_opg rfl (o_pure rfl (by kernel_rfl) rfl (fun w1 hw1 => nalloc_calls w1)) fun _ => ?_
      refine goA ?_
      refine l_opg rfl (o_pure rfl (by kernel_rfl) rfl (fun w1 hw1 => nabort_calls w1)) fun _ => ?_
      refine goA ?_
      refine l_opg rfl (o_pure rfl (by kernel_rfl) rfl (fun w1 hw1 => nput_calls w1)) fun _ => ?_
      refine goA ?_
      refine l_opg rfl (o_pure rfl (by kernel_rfl) rfl (fun w1 hw1 => nfree_calls w1)) fun _ => ?_
      refine goA ?_
      refine l_opg rfl (o_pure rfl (by kernel_rfl) rfl (fun w1 hw1 => ncommit_calls w1)) fun _ => ?_
      refine goA ?_
      refine l_opg rfl (o_pure rfl (by kernel_rfl) rfl (fun w1 hw1 => nUsed_calls w1)) fun _ => ?_
      refine goA ?_
      refine l_opg rfl (o_pure rfl (by kernel_rfl) rfl (fun w1 hw1 => nchanged_calls w1)) fun _ => ?_
      refine goA ?_
      refine l_opg rfl (o_pure rfl (by kernel_rfl) rfl (fun w1 hw1 => ndisk_calls w1)) fun _ => ?_
      refine goA ?_
      refine l_opg rfl (o_pure rfl (by kernel_rfl) rfl (fun w1 hw1 => npages_calls w1)) fun _ => ?_
      refine goA ?_
      refine l_opg rfl (o_pure rfl (by kernel_rfl) rfl (fun w1 hw1 => nbehind_calls w1)) fun _ => ?_
      refine goA ?_
      refine l_opg rfl (o_pure rfl (by kernel_rfl) rfl (fun w1 hw1 => nnote_calls w1)) fun _ => ?_
      refine goA ?_
      refine l_opg rfl (o_pure rfl (by kernel_rfl) rfl (fun w1 hw1 => pgformat_nil log n note w1)) fun _ => ?_
      refine goA ?_
      refine l_opg rfl (o_cu (pre := [ctI, tzI]) rfl (by kernel_rfl) rfl ct_tz_stable (fun w1 hw1 hh1 ha1 => wakes_calls w1 hh1 ha1)) fun ⟨_, _⟩ => ?_
      refine goA ?_
      exact x_ct () rfl rfl rfl trivial (.refl _) ct_tz_stable
end Go.Proofs.YtplhamichcnmmaaGreatDoor

namespace Go.Proofs.YtplhamichcnmmaaGreatDoor
open Go.ChangeShapes Go.ChangeMaps Go.WideShapes Go.ChangeAt Go.RowKit Go.Eng Go.Proofs.YtplhamichcnmmaaGreatDoor
set_option maxRecDepth 100000
def AcT.Ok (a : AcT) : Prop := a.k < 256 ∧ -9223372036854775808 ≤ a.N ∧ a.N < 9223372036854775808 ∧ a.keep.length ≤ 9223372036854775807
theorem tabO {W : World} {n : String} {g t e : Nat} {sz : Nat} {k : IntKind} {zs : List Int} (hg : Tryz.prog.globalNamed n = some g) (hty : (Tryz.prog.globals[g]?).map (·.type) = some t) (ht : Tryz.prog.underlying t = some (.array sz e)) (he : Tryz.prog.underlying e = some (.int k)) (hce : Tryz.prog.cellsOf e = 1) (hct : Tryz.prog.cellsOf t = sz)
    (hlt : g < Tryz.prog.globals.size) (hrow : (((begin Tryz.prog (fun _ _ => 0) default).world.heap[g]?).bind Obj.row?).map (·.2) = some t) (hS : W.ShapedOpen Tryz.prog) (h : Lib.VarReads Tryz.prog W n (Lib.tabData k zs)) : W.heap[g]? = some (.cells (zs.map fun z => Value.int k z).toArray t (0, 0)) := by
  obtain ⟨g', t', cs, fuel, p, hg', hty', hv, hd⟩ := h
  obtain rfl := Option.some.inj (hg'.symm.trans hg)
  obtain rfl := Option.some.inj (hty'.symm.trans hty)
  have hcs := Lib.cells_of_tab ht he hce hct hd
  obtain ⟨⟨zero, t2⟩, hz, rfl⟩ := Option.map_eq_some_iff.1 hrow
  obtain ⟨cs2, h2, -, -⟩ := hS.1 g' zero t2 hlt hz
  have hv2 : W.var? Tryz.prog n = some cs2 := by
    unfold World.var?
    rw [hg']
    show (match W.heap[g']? with | some (.cells cs _ _) => some cs | _ => none) = _
    rw [h2]
  obtain rfl := Option.some.inj (hv.symm.trans hv2)
  rw [h2]
  show some (Obj.cells cs t2 (0, 0)) = _
  rw [← hcs]
theorem tabs8 {W : World} (hS : W.ShapedOpen Tryz.prog) (h : laidMetH Tryz.prog [("armarium/crc.halves", Rows.laid_armarium_crc_halves), ("math/bits.deBruijn64tab", Rows.laid_math_bits_deBruijn64tab)] W) : CTab W ∧ TabW W := by
  have h1 : laidMet Tryz.prog [("armarium/crc.halves", Rows.laid_armarium_crc_halves), ("math/bits.deBruijn64tab", Rows.laid_math_bits_deBruijn64tab)] W := (laidMetH_iff.1 h).1
  have r1 := Lib.laidMet.reads h1 (n := "armarium/crc.halves") (List.mem_cons_self ..)
  have r2 := Lib.laidMet.reads h1 (n := "math/bits.deBruijn64tab") (List.mem_cons_of_mem _ (List.mem_cons_self ..))
  have e1 : (Rows.laid_armarium_crc_halves : DataW Unit) = Lib.tabData .u32 (halves.map fun b => (b.toNat : Int)) := by kernel_rfl
  have e2 : (Rows.laid_math_bits_deBruijn64tab : DataW Unit) = Lib.tabData .u8 (Bm.tab64.map fun n : Nat => (n : Int)) := by kernel_rfl
  rw [e1] at r1
  rw [e2] at r2
  have t1 := tabO (g := 1) (t := 200) (by kernel_rfl) (by kernel_rfl) Tryz.underlying200 Tryz.underlying186 (by kernel_rfl) (by kernel_rfl) (of_decide_eq_true (by kernel_rfl)) (by kernel_rfl) hS r1
  have t2 := tabO (g := 0) (t := 180) (by kernel_rfl) (by kernel_rfl) Tryz.underlying180 Tryz.underlying5 (by kernel_rfl) (by kernel_rfl) (of_decide_eq_true (by kernel_rfl)) (by kernel_rfl) hS r2
  rw [List.map_map] at t1 t2
  exact ⟨⟨t1⟩, ⟨t2⟩⟩
theorem ct_tz_here {W : World} (h : CTab W ∧ TabW W) : ∀ it ∈ [ctI, tzI], Here it W := by
  intro it hm
  rcases hm with _ | ⟨_, _ | ⟨_, hm⟩⟩
  · exact ⟨h.1, ctI_stable _, fun k hk => by have hk : k = _ := hk; rw [hk]; exact (Array.getElem?_eq_some_iff.1 h.1.obj).1⟩
  · exact ⟨h.2, tzI_stable _, fun k hk => by have hk : k = _ := hk; rw [hk]; exact (Array.getElem?_eq_some_iff.1 h.2.obj).1⟩
  · cases hm
theorem ct_tz_apart : [ctI, tzI].Pairwise Eng.Item.Apart := by
  refine List.pairwise_cons.2 ⟨fun y hy k h1 h2 => ?_, List.pairwise_cons.2 ⟨fun _ h => (nomatch h), .nil⟩⟩
  rcases hy with _ | ⟨_, hy⟩
  · have h1 : k = 1 := h1
    have h2 : k = 0 := h2
    rw [h1] at h2
    exact absurd h2 (by decide)
  · cases hy
theorem below8 {W W' : World} (hT : CTab W ∧ TabW W) (h : Its (foots [ctI, tzI]) W [ctI, tzI] W') : Below W.heap.size W W' := by
  refine ⟨h.fr.os, h.fr.tape, h.fr.output, h.fr.size, fun k hk => ?_⟩
  by_cases h1 : k = 1
  · rw [h1, hT.1.obj]
    exact ((h.item ctI (.head _)).1 : CTab W').obj
  by_cases h2 : k = 0
  · rw [h2, hT.2.obj]
    exact ((h.item tzI (.tail _ (.head _))).1 : TabW W').obj
  · refine h.fr.block k hk ?_
    rintro ⟨it, hm, hf⟩
    rcases hm with _ | ⟨_, _ | ⟨_, hm⟩⟩
    · exact h1 hf
    · exact h2 hf
    · cases hm
theorem own : ownKnob Tryz.prog.godebug = none := by kernel_rfl
end Go.Proofs.YtplhamichcnmmaaGreatDoor
