/- The law CDrain: her walk. -/
import Derived.Test.YmbrdvCTools
namespace Go.Proofs.Ymbrdv
open Go.RowKit

theorem cholds_r {w : World} {cb nb : Nat} {c : Cs} {cap : Int} {len : Nat} {K V : Nat → Int} (R : RInv c cap len len K V) (H : CacheAt w cb nb c) (hl : len ≤ 1000000) (b off : Nat) (a : Option Addr) (ecap : Nat) (hE : InRow w b off a len 2 (ecell K V)) :
    Calls Ydvm.prog 29 #[.pointer (some ⟨cb, 0, none⟩), .int .i64 (max cap 0), .slice a len ecap] w fun e w' => e = .returned (.bool true) ∧ Keeps [] w w' := by
  have hL : (List.range len).reverse.length = len := by simp
  have h := cholds_at w cb nb c (List.range len).reverse H R.inv.ch (by rw [R.n, hL]) (by rw [R.inv.free]; rfl) (by omega) b off a ecap K V (by rw [hL]; exact hE) (fun j x hx => by
    obtain ⟨h1, h2⟩ := List.getElem?_eq_some_iff.1 hx
    rw [hL] at h1
    simp at h2
    rw [R.key x (by omega), R.val x (by omega), show len - 1 - x = j by omega]
    exact ⟨rfl, rfl⟩)
  rw [hL, R.cap] at h
  exact h

theorem held_nil {w : World} {cb nb N : Nat} {c : Cs} {cap : Int} (h : Held w cb nb c N cap []) : c.head = -1 ∧ c.tail = -1 := by
  obtain ⟨L, F, I, e⟩ := h.inv
  have : L = [] := by cases L with | nil => rfl | cons x t => simp [ents] at e
  subst this
  exact ⟨by rw [I.ch.head]; rfl, by rw [I.ch.tail]; rfl⟩
theorem take_last {W : List (Int × Int)} {m : Nat} (h : m < W.length) : (W.take (m + 1)).getLastD (0, 0) = (eK W m, eV W m) ∧ (W.take (m + 1)).dropLast = W.take m ∧ (!(W.take (m + 1)).isEmpty) = true := by
  rw [List.take_succ_eq_append_getElem h, ← eKV_get h]
  exact ⟨by simp, by simp, by simp⟩

set_option maxRecDepth 100000 in
set_option maxHeartbeats 4000000 in
theorem walk_CDrain (w : World) (base : Int) (w0 : (Lit.int .i64 base).wf = true) (st : Int) (_w1 : (Lit.int .i64 st).wf = true) (a1 : Option Addr) (len cap : Nat) (V : Nat → Int) (hz : InInts .i64 w a1 len V) (spare : Int) (w3 : (Lit.int .u8 spare).wf = true) :
    Calls Ydvm.prog 10 #[.int .i64 base, .int .i64 st, .slice a1 len cap, .int .u8 spare] w fun e w' => e = .returned (.bool true) ∧ Below w.heap.size w w' := by
  by_cases hbig : 1024 < len
  · have hbig' : (1024 : Int) < (len : Int) := by omega
    go_enter Ydvm.func10, Ydvm.ntmps10
    go_wp2
    go_ret
    exact ⟨rfl, Below.refl _ _⟩
  have hlen : (len : Int) ≤ 1024 := by omega
  obtain ⟨b, off, hE⟩ := hz.row
  have hdist := ckey_distinct base st (wf_i64 w0) len (by omega)
  obtain ⟨h30, h31⟩ := wf_u8 w3
  clear hz w0 _w1 w3
  obtain ⟨cp, hcp⟩ : ∃ cp : Int, cp = (len : Int) + spare % 3 := ⟨_, rfl⟩
  have hmx : max cp 0 = cp := by omega
  have hfit : (len : Int) ≤ cp := by omega
  have HD : Hid (Distinct len (ckey base st) ∧ max cp 0 = cp ∧ cp = (len : Int) + spare % 3) := ⟨hdist, hmx, hcp⟩
  clear hdist hmx
  rw [eq_comm] at hcp
  go_enter Ydvm.func10, Ydvm.ntmps10
  go_wp2_with fail
  refine (cbuild_at w base st b off a1 len cap V hE (by omega)).mono ?_
  rintro e w1 ⟨b1, ec1, rfl, R1, hb1, K1⟩
  have hb1l := R1.lt
  have s1 := K1.size
  generalize ckey base st = K at *
  go_wp2_with fail
  refine (Restore_held cp b1 0 _ len ec1 K V w1 R1.inRow (by omega)).mono ?_
  rintro e w2 ⟨K2, cb, nb, hcb, hnb, h | h⟩
  case inr => exact absurd ⟨by rw [HD.out.2.1]; exact hfit, HD.out.1⟩ h.2.1
  obtain ⟨rfl, _, _, c, H2, Q2⟩ := h
  have R2 := R1.keeps K2 (by simp)
  have HO := cholds_r Q2 H2.at_ (by omega) b1 0 _ ec1 R2.inRow
  rw [HD.out.2.1] at HO H2
  have KA := K1.trans K2 (cs := []) (bs := []) (by simp)
  clear Q2 R1 K1 K2 hE
  go_wp2_with fail
  refine HO.mono ?_
  rintro e w3 ⟨rfl, K3⟩
  clear HO
  have H3 := H2.keeps K3 (by simp) (by simp)
  have R3 := R2.keeps K3 (by simp)
  have KB := KA.trans K3 (cs := []) (bs := []) (by simp)
  have s3 := KB.size
  have hbn : b1 ≠ cb ∧ b1 ≠ nb := by omega
  generalize hW : elist len K V = W at *
  have hWl : W.length = len := by rw [← hW]; exact elist_length _ _ _
  have hWk : ∀ j, j < len → eK W j = K j ∧ eV W j = V j := by rw [← hW]; exact elist_kv _ _ _
  have HI : Hid (Held w3 cb nb c len cp W ∧ RowAt w3 b1 36 2 len ec1 (ecell K V) ∧ Keeps [] w w3 ∧ (∀ j, j < len → eK W j = K j ∧ eV W j = V j) ∧ W.length = len) := ⟨H3, R3, KB, hWk, hWl⟩
  clear H2 R2 KA K3 H3 R3 KB hW hWl hWk
  go_wp2
  go_loopw [13] (fun i wr => ∃ k : Nat, ∃ c' : Cs, k ≤ len ∧ i = .int .i64 ((k : Int) - 1) ∧ Held wr cb nb c' len cp (W.take k) ∧ RowAt wr b1 36 2 len ec1 (ecell K V) ∧ Keeps [] w wr) (fun i _ => ((intOf i) + 1).toNat)
  case atStart => exact ⟨len, c, Nat.le_refl _, rfl, by rw [← HI.out.2.2.2.2, List.take_length, HI.out.2.2.2.2]; exact HI.out.1, HI.out.2.1, HI.out.2.2.1⟩
  case round =>
    obtain ⟨k, c', hk, rfl, H6, R6, K6⟩ := hrel
    have s6 := K6.size
    have hc6 := H6.lt
    have hn6 := H6.nlt
    cases k with
    | zero =>
      have EV := Evict_held H6 (by omega)
      simp at EV
      have HQ : Hid (Keeps [] w wr) := K6
      clear H6 R6 K6
      go_wp2_with fail
      refine EV.mono ?_
      rintro e w7 ⟨rfl, H7, K7⟩
      have K8 := HQ.out.trans K7 (cs := [cb, nb]) (bs := []) (by simp; omega)
      have hc7 := H7.lt
      have q4 := (H7.at_.alloc (.cells #[.int .i64 0, .int .i64 0] 36)).c4
      rw [H7.size] at q4
      simp only [List.length_nil] at q4
      rw [show ((0 : Nat) : Int) = 0 from rfl] at q4
      clear EV H7 K7
      go_wp2
      go_ret
      exact ⟨rfl, (K8.alloc _).below (Nat.le_refl _) (by simp)⟩
    | succ m =>
      have hlt : m < W.length := by rw [HI.out.2.2.2.2]; omega
      obtain ⟨d1, d2, d3⟩ := take_last hlt
      have EV := Evict_held H6 (by omega)
      rw [d1, d2, d3, (HI.out.2.2.2.1 m (by omega)).1, (HI.out.2.2.2.1 m (by omega)).2] at EV
      have HQ : Hid (Keeps [] w wr ∧ RowAt wr b1 36 2 len ec1 (ecell K V)) := ⟨K6, R6⟩
      have hbl := R6.lt
      clear H6 R6 K6 d1 d2 d3
      have hm1 : ((m + 1 : Nat) : Int) - 1 = (m : Int) := by omega
      rw [hm1]
      have hm2 : (0 : Int) ≤ (m : Int) := by omega
      have hm3 : (m : Int) < (len : Int) := by omega
      clear hm1
      go_wp2_with fail
      refine EV.mono ?_
      rintro e w7 ⟨rfl, H7, K7⟩
      have s7 := K7.size
      have K8 := HQ.out.1.trans K7 (cs := [cb, nb]) (bs := []) (by simp; omega)
      have R8 := HQ.out.2.keeps K7 (by simp; omega)
      obtain ⟨e0, e1⟩ := (R8.alloc (.cells #[.int .i64 (K m), .int .i64 (V m)] 36)).ents m (by omega)
      have hbl8 := R8.lt
      have HN : Hid (Held w7 cb nb c'.evict len cp (W.take m) ∧ RowAt w7 b1 36 2 len ec1 (ecell K V) ∧ Keeps [] w w7) := ⟨H7, R8, K8⟩
      clear EV H7 K7 R8 K8
      go_wp2
      go_quiet (fail)
      go_wp2
      go_roundw
      case rel => exact ⟨m, c'.evict, by omega, by go_num, (HN.out.1.alloc _).drewN _, (HN.out.2.1.alloc _).keeps ((Keeps.refl [] _).drewN _) (by simp), (HN.out.2.2.alloc _).drewN _⟩
      case measure => (try simp [intOf]) <;> (try omega)
end Go.Proofs.Ymbrdv
