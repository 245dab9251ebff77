/- The law GStep: her walk. -/
import Derived.Test.YmbrdwBuildG
import Derived.Test.YmbrdwPlain3
import Derived.Test.YmbrdwSame
import Derived.Deep.DeepCutAuto
namespace Go.Proofs.Ymbrdw
open Go.RowKit

theorem gstep_plain {M : List (Int × Int)} (hn : (M.map Prod.fst).Nodup) (room : Int) (h0 : 0 ≤ room) (hl : (M.length : Int) ≤ room) (k v : Int) :
    mok room M k = decide (room < ((((k, v) :: wo k M).length : Nat) : Int)) ∧ mout room M k v = (if room < ((((k, v) :: wo k M).length : Nat) : Int) then ((k, v) :: wo k M).getLastD (0, 0) else (0, 0)) ∧
    mput room M k v = (if room < ((((k, v) :: wo k M).length : Nat) : Int) then ((k, v) :: wo k M).dropLast else (k, v) :: wo k M) := by
  by_cases hr : room = 0
  · subst hr
    have hM : M = [] := List.eq_nil_of_length_eq_zero (by omega)
    subst hM
    simp [mok, mout, mput, wo]
  · have hp := mput_wo hn room hr hl k v
    unfold mok mout
    rw [if_neg hr, if_neg hr, hp]
    cases h : idx k M with
    | none =>
      rw [wo_of_none h]
      by_cases e : (M.length : Int) = room
      · have hlt : room < (((k, v) :: M).length : Nat) := by rw [List.length_cons]; omega
        rw [if_pos ⟨rfl, e⟩, if_pos hlt, if_pos hlt]
        refine ⟨by simp [e]; omega, ?_, ?_⟩
        · cases M with
          | nil => simp at e; omega
          | cons x t => simp [List.getLastD]
        · rw [List.dropLast_eq_take]; congr 1; rw [List.length_cons]; omega
      · have hlt : ¬ room < (((k, v) :: M).length : Nat) := by rw [List.length_cons]; omega
        rw [if_neg (fun x => e x.2), if_neg hlt, if_neg hlt]
        refine ⟨by simp [e]; omega, rfl, ?_⟩
        rw [List.take_of_length_le (by rw [List.length_cons]; omega)]
    | some j =>
      rw [wo_of_some hn h]
      have hj : j < M.length := by obtain ⟨e, h1, _, _⟩ := idx_some h; exact (List.getElem?_eq_some_iff.1 h1).1
      have hlt : ¬ room < (((k, v) :: M.eraseIdx j).length : Nat) := by rw [List.length_cons, List.length_eraseIdx_of_lt hj]; omega
      rw [if_neg (fun x => by simp at x), if_neg hlt, if_neg hlt]
      refine ⟨?_, rfl, ?_⟩
      · simp only [reduceCtorEq, false_and, decide_false]; simp only [hlt, decide_false]
      · rw [List.take_of_length_le]; rw [List.length_cons, List.length_eraseIdx_of_lt hj]; omega

theorem wo_take_yes {key : Int} {M : List (Int × Int)} {k : Nat} (hk : k < M.length) (h : eK M k ≠ key) : wo key (M.take (k + 1)) = wo key (M.take k) ++ [(eK M k, eV M k)] := by
  have he : (eK M k, eV M k) = M[k] := by unfold eK eV; simp [List.getD, hk]
  rw [List.take_succ_eq_append_getElem hk, wo_append, ← he, wo_cons_other (e := (eK M k, eV M k)) h, wo_nil]
theorem wo_take_no {key : Int} {M : List (Int × Int)} {k : Nat} (hk : k < M.length) (h : eK M k = key) : wo key (M.take (k + 1)) = wo key (M.take k) := by
  have he : (eK M k, eV M k) = M[k] := by unfold eK eV; simp [List.getD, hk]
  rw [List.take_succ_eq_append_getElem hk, wo_append, ← he, wo_cons_same (e := (eK M k, eV M k)) h, wo_nil, List.append_nil]

set_option maxRecDepth 100000 in
set_option maxHeartbeats 4000000 in
theorem walk_GStep (w : World) (a0 : Int) (w0 : (Lit.int .i64 a0).wf = true) (a1 : Option Addr) (len cap : Nat) (z : Nat → Nat → Int) (hz : InStr [.u8, .i64, .i64] w a1 len z) (key : Int) (_w2 : (Lit.int .i64 key).wf = true) (val : Int) (_w3 : (Lit.int .i64 val).wf = true) :
    Calls Ydwm.prog 9 #[.int .i64 a0, .slice a1 len cap, .int .i64 key, .int .i64 val] w fun e w' => e = .returned (.bool true) ∧ Below w.heap.size w w' := by
  by_cases hbig : 1024 < len
  · have hbig' : (1024 : Int) < (len : Int) := by omega
    go_enter Ydwm.func9, Ydwm.ntmps9
    go_wp2
    go_ret
    exact ⟨rfl, Below.refl _ _⟩
  have hlen : (len : Int) ≤ 1024 := by omega
  obtain ⟨b, off, hS⟩ := Script.of hz
  obtain ⟨h00, h01⟩ := wf_i64 w0
  obtain ⟨i0, hi0, hz0, hz1, hz2⟩ := info_parts infoEntry
  clear hz w0
  obtain ⟨room, hroom⟩ : ∃ room, room = max a0 0 := ⟨_, rfl⟩
  have HRM : Hid (room = max a0 0) := hroom
  have hr0 : 0 ≤ room := by omega
  clear hroom
  go_enter Ydwm.func9, Ydwm.ntmps9
  go_upto_if 25 with fail
  go_cut [9] (fun r wx => r = .int .i64 room ∧ w = wx)
  case first =>
    by_cases hneg : a0 < 0
    · go_wp2
      go_meet
      exact ⟨by rw [HRM.out, show max a0 0 = 0 by omega], rfl⟩
    · go_wp2
      go_meet
      exact ⟨by rw [HRM.out, show max a0 0 = a0 by omega], rfl⟩
  case rest =>
    obtain ⟨rfl, rfl⟩ := hcut
    go_wp2_with fail
    refine (gbuild_at w a0 b off a1 len cap z hS (by omega)).mono ?_
    rintro e w1 ⟨nb, c, rfl, H1, hnb, K1⟩
    rw [← HRM.out] at H1
    generalize splay 6 3 4 5 room z [] len = M at *
    have s1 := K1.size
    have hcl := H1.lt
    have hnl := H1.nlt
    have hMl := H1.len_le
    have G := gstep_plain H1.nodup room hr0 H1.len_cap key val
    clear hS
    go_wp2_with fail
    refine (Order_held H1 (by omega)).mono ?_
    rintro e w2 ⟨b2, ec2, rfl, R2, hb2, K2⟩
    have s2 := K2.size
    have H2 := H1.keeps K2 (by simp) (by simp)
    go_wp2_with fail
    refine (Put_held key val H2 (by omega)).mono ?_
    rintro e w3 ⟨rfl, nb3, H3, hb3, K3⟩
    have s3 := K3.size
    have R3 := R2.keeps K3 (by simp; omega)
    have l3 := R2.lt
    have n3 := H3.nlt
    rw [G.1, G.2.1]
    rw [G.2.2] at H3
    generalize hW : (key, val) :: wo key M = W at *
    generalize hO : (if room < (W.length : Int) then W.getLastD (0, 0) else (0, 0)) = O at *
    generalize hM' : (if room < (W.length : Int) then W.dropLast else W) = M' at *
    have hMl' := H3.len_le
    go_wp2_with fail
    refine (Order_held (H3.alloc _) (by omega)).mono ?_
    rintro e w4 ⟨b4, ec4, rfl, R4, hb4, K4⟩
    have s4 : w3.heap.size + 1 ≤ w4.heap.size := by have := K4.size; simpa using this
    have H4 := (H3.alloc (.cells #[.int .i64 O.1, .int .i64 O.2] 28)).keeps K4 (by simp) (by simp)
    have R5 := (R3.alloc (.cells #[.int .i64 O.1, .int .i64 O.2] 28)).keeps K4 (by simp)
    have hl4 := R4.lt
    have hl5 := R5.lt
    have c5 := H4.lt
    have n5 := H4.nlt
    have q0 : w4.cell? ⟨w3.heap.size, 0, none⟩ = some (.int .i64 O.1) := K4.cell (by simp) (by simp)
    have q1 : w4.cell? ⟨w3.heap.size, 1, none⟩ = some (.int .i64 O.2) := K4.cell (by simp) (by simp)
    have KW : Keeps [] w w4 := (((K1.trans K2 (by simp)).trans K3 (cs := [w.heap.size, nb]) (bs := []) (by simp; omega)).alloc _).trans K4 (by simp)
    have HB : Hid (Held w4 w.heap.size nb3 (c.put key val) (len + 1) room M' ∧ Keeps [] w w4 ∧ RowAt w4 b4 28 2 M'.length ec4 (ecell (eK M') (eV M')) ∧ RowAt w4 b2 28 2 M.length ec2 (ecell (eK M) (eV M)) ∧ w4.cell? ⟨w3.heap.size, 0, none⟩ = some (.int .i64 O.1) ∧ w4.cell? ⟨w3.heap.size, 1, none⟩ = some (.int .i64 O.2)) := ⟨H4, KW, R4, R5, q0, q1⟩
    have HW : Hid ((key, val) :: wo key M = W ∧ (if room < (W.length : Int) then W.getLastD (0, 0) else (0, 0)) = O ∧ (if room < (W.length : Int) then W.dropLast else W) = M') := ⟨hW, hO, hM'⟩
    clear H1 H2 H3 H4 K1 K2 K3 K4 R2 R3 R4 R5 G hb3 hW hO hM' KW q0 q1
    have hm1 : (M.length : Int) ≤ 1024 := by omega
    go_wp2
    go_loopw [15, 46] (fun v j wr => ∃ k bk ck : Nat, ∃ Wk : List (Int × Int), k ≤ M.length ∧ j = .int .i64 k ∧ v = .slice (some ⟨bk, 0, none⟩) Wk.length ck ∧ Wk = (key, val) :: wo key (M.take k) ∧ RowAt wr bk 28 2 Wk.length ck (ecell (eK Wk) (eV Wk)) ∧ w4.heap.size ≤ bk ∧ Keeps [] w4 wr) (fun _ j _ => M.length - (intOf j).toNat)
    case atStart =>
      refine ⟨0, w4.heap.size, 1, [(key, val)], by omega, rfl, rfl, by simp [wo], ⟨⟨_, heap_alloc_new w4 _, rfl, fun j hj => ?_⟩, by simp, by unfold maxLen; omega⟩, Nat.le_refl _, (Keeps.refl _ _).alloc _⟩
      match j, hj with
      | 0, _ => rfl
      | 1, _ => rfl
    case round =>
      obtain ⟨k, bk, ck, Wk, hk, rfl, rfl, hWk, hR, hbk, hK⟩ := hrel
      have hkz := hK.size
      have hWl : Wk.length ≤ k + 1 := by
        rw [hWk, List.length_cons]
        have := List.length_filter_le (fun e : Int × Int => decide (e.1 ≠ key)) (M.take k)
        rw [List.length_take] at this
        unfold wo; omega
      by_cases hlt : k < M.length
      · have hlt' : (k : Int) < (M.length : Int) := by omega
        obtain ⟨e0, e1⟩ := (HB.out.2.2.2.1.keeps hK (by simp)).ents k hlt
        have hbl : b2 < wr.heap.size := by omega
        have HI : Hid (Wk = (key, val) :: wo key (M.take k) ∧ RowAt wr bk 28 2 Wk.length ck (ecell (eK Wk) (eV Wk)) ∧ Keeps [] w4 wr) := ⟨hWk, hR, hK⟩
        clear hWk hR hK
        by_cases heq : eK M k = key
        · have HQ : Hid (eK M k = key) := heq
          rw [heq] at e0
          clear heq
          go_wp2
          go_roundw
          case rel => exact ⟨k + 1, bk, ck, Wk, by omega, by go_num, rfl, by rw [wo_take_no hlt HQ.out]; exact HI.out.1, HI.out.2.1.alloc _, hbk, HI.out.2.2.alloc _⟩
          case measure => simp [intOf]; omega
        · have HQ : Hid (¬ eK M k = key) := heq
          have hb : (eK M k != key) = true := by rw [bne_iff_ne]; exact heq
          clear heq
          go_wp2_with (at_builtin; refine wp_append1 _ rfl (.tmp 54) (.tmp 56) 37 rfl 28 i0 _ 2 16 Ydwm.underlying37 hi0 hz0 hz1 hz2 rfl (by omega) (.slice (some ⟨bk, 0, none⟩) Wk.length ck) Wk.length (ecell (eK Wk) (eV Wk)) rfl ?hS (wr.heap.size + 1) rfl #[.int .i64 (eK M k), .int .i64 (eV M k)] 28 ?hB rfl ?h1 (by omega) (by omega) ?_)
          case hS => exact ((HI.out.2.1.alloc _).alloc _).sliceAt
          case hB =>
            have := heap_alloc_new (wr.alloc (.cells #[.int .i64 (eK M k), .int .i64 (eV M k)] 28)) (.cells #[.int .i64 (eK M k), .int .i64 (eV M k)] 28)
            rw [World.size_alloc] at this
            first | exact this | exact (Array.getElem?_eq_some_iff.1 this).2
          case h1 => first | exact ⟨rfl, rfl⟩ | (simp; exact ⟨rfl, rfl⟩)
          intro b' cap' w5 hr2 hk2 hbb2
          have hr3 := hr2.snocE
          have hk3 : Keeps [] w4 w5 := ((HI.out.2.2.alloc _).alloc _).trans hk2 (fun x hx => .inr (by simp [Value.ownBlock] at hx; omega))
          have hb3 : w4.heap.size ≤ b' := by
            rcases hbb2 with h | h
            · simp [Value.ownBlock] at h; omega
            · (try simp at h); omega
          have HR : Hid (RowAt w5 b' 28 2 (Wk ++ [(eK M k, eV M k)]).length cap' (ecell (eK (Wk ++ [(eK M k, eV M k)])) (eV (Wk ++ [(eK M k, eV M k)]))) ∧ Keeps [] w4 w5) := ⟨hr3, hk3⟩
          clear hr2 hk2 hbb2 hr3 hk3 e0 e1
          go_wp2
          go_roundw
          case rel => exact ⟨k + 1, b', cap', Wk ++ [(eK M k, eV M k)], by omega, by go_num, by simp, by rw [wo_take_yes hlt HQ.out, ← List.cons_append, ← HI.out.1], HR.out.1, hb3, HR.out.2⟩
          case measure => simp [intOf]; omega
      · have hlt' : ¬ (k : Int) < (M.length : Int) := by omega
        obtain rfl : k = M.length := by omega
        rw [List.take_length, HW.out.1] at hWk
        subst hWk
        obtain ⟨m, hm⟩ : ∃ m, Wk.length = m + 1 := ⟨(wo key M).length, by rw [← HW.out.1]; rfl⟩
        have H6 := HB.out.1.keeps hK (by simp) (by simp)
        have x5 := H6.at_.c5
        rw [H6.cap] at x5
        have A6 := HB.out.2.2.1.keeps hK (by simp)
        have y0 := hK.cell HB.out.2.2.2.2.1 (by simp)
        have y1 := hK.cell HB.out.2.2.2.2.2 (by simp)
        have hlw3 : w3.heap.size < wr.heap.size := by omega
        have hcw : w.heap.size < wr.heap.size := by omega
        have hbw : bk < wr.heap.size := hR.lt
        obtain ⟨v0, v1⟩ := hR.ents m (by omega)
        have hml : (m : Int) ≤ 2048 := by omega
        have hck : m + 1 ≤ ck := by have := hR.le; omega
        have hck' : (m : Int) ≤ (ck : Int) := by omega
        have hck2 : m ≤ ck := by omega
        have hmm : (m : Int) < (m : Int) + 1 := by omega
        have KW := HB.out.2.1.trans hK (by simp)
        by_cases hov : room < (Wk.length : Int)
        · have eO : O = (eK Wk m, eV Wk m) := by rw [← HW.out.2.1, if_pos hov, getLastD_eK hm]
          have eM : M' = Wk.dropLast := by rw [← HW.out.2.2, if_pos hov]
          have eL : M'.length = m := by rw [eM, List.length_dropLast]; omega
          have hd : decide (room < (Wk.length : Int)) = true := by simpa using hov
          rw [hd, hm]
          rw [hm] at hov hR
          rw [eO] at y0 y1
          have hov' : room < (m : Int) + 1 := by omega
          have LEN := Len_held (H6.alloc (.cells #[.int .i64 (eK Wk m), .int .i64 (eV Wk m)] 28))
          have GE := geq_at (wr.alloc (.cells #[.int .i64 (eK Wk m), .int .i64 (eV Wk m)] 28)) b4 0 M'.length ec4 bk 0 m ck _ _ (eK M') (eV M') (eK Wk) (eV Wk) (A6.alloc _).inRow ((hR.take (show m ≤ m + 1 by omega)).alloc _).inRow (by omega)
          have HP : Hid (SameEnts M'.length (eK M') (eV M') m (eK Wk) (eV Wk) ∧ Keeps [] w wr) := ⟨⟨eL, fun j hj => by rw [eM]; exact dropLast_eK hm j (by omega)⟩, KW⟩
          rw [eL] at LEN GE HP
          rw [eL]
          clear H6 A6 hR KW eO eM hd hov HW hm eL
          go_wp2_with (first | (go_at_call 26; refine LEN.mono ?_; rintro e w7 ⟨rfl, rfl⟩) | (go_at_call 27; refine GE.mono ?_; rintro e w8 ⟨bb, rfl, hbb, K8⟩; obtain rfl : bb = true := hbb.2 HP.out.1))
          go_ret
          exact ⟨rfl, ((HP.out.2.alloc _).trans K8 (by simp)).below (Nat.le_refl _) (by simp)⟩
        · have eO : O = (0, 0) := by rw [← HW.out.2.1, if_neg hov]
          have eM : M' = Wk := by rw [← HW.out.2.2, if_neg hov]
          have hd : decide (room < (Wk.length : Int)) = false := by simpa using hov
          rw [hd]
          rw [eO] at y0 y1
          have LEN := Len_held (H6.alloc (.cells #[.int .i64 0, .int .i64 0] 28))
          have GE := geq_at (wr.alloc (.cells #[.int .i64 0, .int .i64 0] 28)) b4 0 M'.length ec4 bk 0 Wk.length ck _ _ (eK M') (eV M') (eK Wk) (eV Wk) (A6.alloc _).inRow (hR.alloc _).inRow (by omega)
          have HP : Hid (SameEnts M'.length (eK M') (eV M') Wk.length (eK Wk) (eV Wk) ∧ Keeps [] w wr) := ⟨⟨by rw [eM], fun j hj => by rw [eM]; exact ⟨rfl, rfl⟩⟩, KW⟩
          rw [eM] at LEN GE HP
          rw [eM]
          clear H6 A6 hR KW eO eM hd HW hm
          go_wp2_with (first | (go_at_call 26; refine LEN.mono ?_; rintro e w7 ⟨rfl, rfl⟩) | (go_at_call 27; refine GE.mono ?_; rintro e w8 ⟨bb, rfl, hbb, K8⟩; obtain rfl : bb = true := hbb.2 HP.out.1))
          go_ret
          exact ⟨rfl, ((HP.out.2.alloc _).trans K8 (by simp)).below (Nat.le_refl _) (by simp)⟩
end Go.Proofs.Ymbrdw
