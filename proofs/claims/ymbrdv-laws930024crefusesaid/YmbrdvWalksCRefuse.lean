/- The law CRefuse: her walk. -/
import Derived.Test.YmbrdvCTools
namespace Go.Proofs.Ymbrdv
open Go.RowKit

theorem not_distinct {n : Nat} {K : Nat → Int} {p : Nat} (hp : p < n) (x : Int) (h : x = K p) : ¬ Distinct (n + 1) (upd K n x) := by
  intro hd
  refine hd p n hp (by omega) ?_
  rw [upd_same, upd_other _ _ _ _ (by omega), h]

set_option maxRecDepth 100000 in
set_option maxHeartbeats 4000000 in
theorem walk_CRefuse (w : World) (base : Int) (_w0 : (Lit.int .i64 base).wf = true) (st : Int) (_w1 : (Lit.int .i64 st).wf = true) (a1 : Option Addr) (len cap : Nat) (V : Nat → Int) (hz : InInts .i64 w a1 len V) (pick : Int) (w3 : (Lit.int .u16 pick).wf = true) (val : Int) (_w4 : (Lit.int .i64 val).wf = true) (spare : Int) (w5 : (Lit.int .u8 spare).wf = true) :
    Calls Ydvm.prog 11 #[.int .i64 base, .int .i64 st, .slice a1 len cap, .int .u16 pick, .int .i64 val, .int .u8 spare] w fun e w' => e = .returned (.bool true) ∧ Below w.heap.size w w' := by
  by_cases hz0 : len = 0
  · subst hz0
    go_enter Ydvm.func11, Ydvm.ntmps11
    go_wp2
    go_ret
    exact ⟨rfl, Below.refl _ _⟩
  have hlb : ((len : Int) == 0) = false := beq_eq_false_iff_ne.2 (by omega)
  by_cases hbig : 1024 < len
  · have hbig' : (1024 : Int) < (len : Int) := by omega
    go_enter Ydvm.func11, Ydvm.ntmps11
    go_wp2
    go_ret
    exact ⟨rfl, Below.refl _ _⟩
  have hlen : (len : Int) ≤ 1024 := by omega
  obtain ⟨b, off, hE⟩ := hz.row
  obtain ⟨h30, h31⟩ := wf_u16 w3
  obtain ⟨h50, h51⟩ := wf_u8 w5
  clear hz _w0 _w1 w3 _w4 w5
  obtain ⟨i0, hi0, hz0', hz1, hz2⟩ := info_parts infoEntry
  have hmx : max ((len : Int) - 1) 0 = (len : Int) - 1 := by omega
  obtain ⟨cp, hcp⟩ : ∃ cp : Int, cp = (len : Int) + 1 + spare % 3 := ⟨_, rfl⟩
  have hmc : max cp 0 = cp := by omega
  obtain ⟨k, hk⟩ : ∃ k : Nat, (k : Int) = pick % (len : Int) := ⟨(pick % (len : Int)).toNat, Int.toNat_of_nonneg (Int.emod_nonneg _ (by omega))⟩
  have hkl : k < len := by have := Int.emod_lt_of_pos pick (show (0 : Int) < (len : Int) by omega); omega
  have hkl' : (k : Int) < (len : Int) := by omega
  rw [eq_comm] at hk
  have HX : Hid (max ((len : Int) - 1) 0 = (len : Int) - 1 ∧ max cp 0 = cp ∧ cp = (len : Int) + 1 + spare % 3) := ⟨hmx, hmc, hcp⟩
  rw [eq_comm] at hcp
  clear hmx hmc
  go_enter Ydvm.func11, Ydvm.ntmps11
  go_wp2_with fail
  refine (cbuild_at w base st b off a1 len cap V hE (by omega)).mono ?_
  rintro e w1 ⟨b1, ec1, rfl, R1, hb1, K1⟩
  have hb1l := R1.lt
  have s1 := K1.size
  generalize ckey base st = K at *
  go_wp2_with fail
  refine (Restore_held ((len : Int) - 1) b1 0 _ len ec1 K V w1 R1.inRow (by omega)).mono ?_
  rintro e w2 ⟨K2, cb, nb, hcb, hnb, h | h⟩
  case inl => exact absurd (by have := h.2.1; rw [HX.out.1] at this; exact this) (show ¬ (len : Int) ≤ (len : Int) - 1 by omega)
  obtain ⟨rfl, _, rfl, H2⟩ := h
  have EM := cempty_at w2 nb _ H2
  rw [HX.out.1] at EM
  have R2 := R1.keeps K2 (by simp)
  have KA := K1.trans K2 (cs := []) (bs := []) (by simp)
  clear R1 K1 K2 hE H2
  go_wp2_with fail
  refine EM.mono ?_
  rintro e w3 ⟨rfl, rfl⟩
  clear EM
  obtain ⟨e0, e1⟩ := R2.ents k hkl
  have hbl := R2.lt
  have s2 := KA.size
  have HI : Hid (RowAt w3 b1 36 2 len ec1 (ecell K V) ∧ Keeps [] w w3) := ⟨R2, KA⟩
  clear R2 KA
  generalize hkk : K k = kk at *
  have HK : Hid (K k = kk) := hkk
  clear hkk
  go_wp2_with (at_builtin; refine wp_append1 _ rfl (.tmp 58) (.tmp 62) 49 rfl 36 i0 _ 2 16 Ydvm.underlying49 hi0 hz0' hz1 hz2 rfl (by omega) (.slice (some ⟨b1, 0, none⟩) len ec1) len (ecell K V) rfl ?hS w3.heap.size rfl #[.int .i64 kk, .int .i64 val] 36 ?hB rfl ?h1 (by omega) (by omega) ?_)
  case hS => exact (HI.out.1.alloc _).sliceAt
  case hB => first | exact heap_alloc_new _ _ | exact (Array.getElem?_eq_some_iff.1 (heap_alloc_new _ _)).2
  case h1 => first | exact ⟨rfl, rfl⟩ | (simp; exact ⟨rfl, rfl⟩)
  intro b4 cap4 w4 hr2 hk2 hbb2
  have R4 : RowAt w4 b4 36 2 (len + 1) cap4 (ecell (upd K len kk) (upd V len val)) := hr2.congr fun j hj => snoc_ecell _ _ _ _ _ _ hj
  have KB : Keeps [] w w4 := (HI.out.2.alloc _).trans hk2 (fun x hx => .inr (by simp [Value.ownBlock] at hx; omega))
  clear hr2 hk2 hbb2 e0 e1
  go_wp2_with fail
  refine (Restore_held cp b4 0 _ (len + 1) cap4 _ _ w4 R4.inRow (by omega)).mono ?_
  rintro e w5 ⟨K5, cb5, nb5, hcb5, hnb5, h | h⟩
  case inl => exact absurd h.2.2.1 (not_distinct hkl kk HK.out.symm)
  obtain ⟨rfl, _, rfl, H5⟩ := h
  have EM := cempty_at w5 nb5 _ H5
  rw [HX.out.2.1] at EM
  have KC := KB.trans K5 (cs := []) (bs := []) (by simp)
  clear R4 KB K5 H5
  go_wp2_with fail
  refine EM.mono ?_
  rintro e w6 ⟨rfl, rfl⟩
  clear EM
  go_wp2
  go_ret
  exact ⟨rfl, KC.below (Nat.le_refl _) (by simp)⟩
end Go.Proofs.Ymbrdv
