/- The law GSound: her walk. -/
import Derived.Test.YmbrdwGSnd
import Derived.BigQuiet
namespace Go.Proofs.Ymbrdw
open Go.RowKit

theorem put_cn {c : Cs} {L F : List Nat} (I : Inv c L F) (k v : Int) : (c.put k v).n = if c.find k = -1 ∧ c.size < c.cap ∧ c.size = c.n then c.n + 1 else c.n := by
  have hs := I.ch.size
  have hcnt := I.cnt
  have hcap := I.ncap
  have hfr := I.free
  unfold Cs.put
  by_cases h0 : c.cap = 0
  · rw [if_pos h0, if_neg (by omega)]
  · rw [if_neg h0]
    by_cases hf : c.find k = -1
    · rw [if_pos hf]
      by_cases hsz : c.size = c.cap
      · rw [if_pos hsz, if_neg (by omega)]
        unfold Cs.insert
        have he : c.evict = c.drop c.tail.toNat := by unfold Cs.evict; rw [if_neg (by omega)]
        rw [he, if_neg (by show ¬ ((c.tail.toNat : Nat) : Int) = -1; omega)]
        unfold Cs.fill
        rw [pushFront_n]
        rfl
      · rw [if_neg hsz]
        unfold Cs.insert
        by_cases hF : F.length = 0
        · have : c.free = -1 := by rw [hfr]; exact nth_ge (by omega)
          rw [if_pos this, if_pos ⟨hf, by omega, by omega⟩]
          unfold Cs.fill
          rw [pushFront_n]
          rfl
        · have : ¬ c.free = -1 := by rw [hfr, nth_eq_neg]; omega
          rw [if_neg this, if_neg (by omega)]
          unfold Cs.fill
          rw [pushFront_n]
          rfl
    · rw [if_neg hf, if_neg (by omega), pushFront_n]
      rfl

set_option maxRecDepth 100000 in
set_option maxHeartbeats 4000000 in
theorem walk_GSound (w : World) (a0 : Int) (_w0 : (Lit.int .i64 a0).wf = true) (a1 : Option Addr) (len cap : Nat) (z : Nat → Nat → Int) (hz : InStr [.u8, .i64, .i64] w a1 len z) (key : Int) (_w2 : (Lit.int .i64 key).wf = true) (val : Int) (_w3 : (Lit.int .i64 val).wf = true) :
    Calls Ydwm.prog 11 #[.int .i64 a0, .slice a1 len cap, .int .i64 key, .int .i64 val] w fun e w' => e = .returned (.bool true) ∧ Below w.heap.size w w' := by
  by_cases hbig : 1024 < len
  · have hbig' : (1024 : Int) < (len : Int) := by omega
    go_enter Ydwm.func11, Ydwm.ntmps11
    go_wp2
    go_ret
    exact ⟨rfl, Below.refl _ _⟩
  have hlen : (len : Int) ≤ 1024 := by omega
  obtain ⟨b, off, hS⟩ := Script.of hz
  have BLD := gbuild_at w a0 b off a1 len cap z hS (by omega)
  clear hz _w0 _w2 _w3 hS
  go_enter Ydwm.func11, Ydwm.ntmps11
  go_wp2_with fail
  refine BLD.mono ?_
  rintro e w1 ⟨nb, c, rfl, H1, hnb, K1⟩
  clear BLD
  obtain ⟨HC, ⟨L, F, I, _⟩, _, hcn⟩ := H1
  have GS1 := gsound_at w1 w.heap.size nb c L F HC I (by omega)
  have hn2 : c.n ≤ 1024 := by omega
  have s1 := K1.size
  have hLl : L.length ≤ 1000000 := by have := I.cnt; omega
  go_wp2_with fail
  refine GS1.mono ?_
  rintro e w2 ⟨rfl, K2⟩
  clear GS1
  have HC2 := HC.keeps K2 (by simp) (by simp)
  have KA := K1.trans K2 (cs := []) (bs := []) (by simp)
  have PEEK := Peek_at w.heap.size nb key c L w2 HC2 I.ch hLl
  have PCN := put_cn I key val
  obtain ⟨L', F', I', _⟩ := I.put (by omega) key val
  have hs := I.ch.size
  have hcnt := I.cnt
  have hcap := I.ncap
  obtain ⟨na, ncap, q0, _, _⟩ := HC2.slots
  have q4 := HC2.c4
  have q5 := HC2.c5
  rw [hs] at q4 PCN
  obtain ⟨N, hN⟩ : ∃ N, N = c.n := ⟨_, rfl⟩
  obtain ⟨C, hC⟩ : ∃ C, C = c.cap := ⟨_, rfl⟩
  rw [← hN] at q0 PCN hcnt hcap hn2
  rw [← hC] at q5 PCN hcap
  have hN' : (N : Int) ≤ 1024 := by omega
  have hl2 := HC2.lt
  have hnl2 := HC2.nlt
  have PUT := fun nq => Put_at w.heap.size nb key val c L (w2.drewN nq) (HC2.drewN nq) I.ch hLl (by omega) I.free_ok
  have HD : Hid (Inv (c.put key val) L' F' ∧ Keeps [] w w2) := ⟨I', KA⟩
  have HPUT : Hid _ := PUT
  clear PUT I' KA I HC HC2 K1 K2 hN hC hs
  by_cases hf : c.find key = -1
  · rw [show (!decide (c.find key = -1)) = false by rw [hf]; rfl] at PEEK
    by_cases hsc : (L.length : Int) < C
    · have hd1 : decide ((L.length : Int) < C) = true := decide_eq_true hsc
      by_cases hsn : L.length = N
      ·
        rw [if_pos ⟨hf, hsc, by omega⟩] at PCN
        have hb1 : ((L.length : Int) == (N : Int)) = true := beq_iff_eq.2 (by omega)
        have hb2 : (L.length == N) = true := beq_iff_eq.2 hsn
        rw [hsn] at q4
        have hd2 : decide ((N : Int) < C) = true := decide_eq_true (by omega)
        have hsc2 : (N : Int) < C := by omega
        clear hf hsn
        have HPN : Hid ((c.put key val).n = N + 1) := PCN
        clear PCN hcnt hcap
        go_wp2_with fail
        refine PEEK.mono ?_
        rintro e w3 ⟨rfl, rfl⟩
        clear PEEK
        go_wp2_with fail
        go_quiet (fail)
        have KD : Keeps [] w (w3.drewN nq) := HD.out.2.drewN nq
        have PT := HPUT.out nq
        go_wp2_with fail
        refine PT.mono ?_
        rintro e w4 ⟨rfl, nb4, H4, hnb4, K4⟩
        clear PT
        have KE := KD.trans K4 (cs := [w.heap.size, nb]) (bs := []) (by simp; omega)
        obtain ⟨na4, nc4, q0, _, _⟩ := H4.slots
        rw [HPN.out] at q0
        have GS2 := gsound_at w4 w.heap.size nb4 _ L' F' H4 HD.out.1 (by rw [HPN.out]; omega)
        clear KD K4 H4 hnb4
        go_wp2_with fail
        refine GS2.mono ?_
        rintro e w5 ⟨rfl, K5⟩
        go_wp2
        go_ret
        exact ⟨rfl, (KE.trans K5 (cs := []) (bs := []) (by simp)).below (Nat.le_refl _) (by simp)⟩
      ·
        rw [if_neg (by omega)] at PCN
        have hb1 : ((L.length : Int) == (N : Int)) = false := beq_eq_false_iff_ne.2 (by omega)
        have hb2 : (L.length == N) = false := beq_eq_false_iff_ne.2 hsn
        clear hf
        have HPN : Hid ((c.put key val).n = N) := PCN
        clear PCN hcnt hcap
        go_wp2_with fail
        refine PEEK.mono ?_
        rintro e w3 ⟨rfl, rfl⟩
        clear PEEK
        go_wp2_with fail
        go_quiet (fail)
        have KD : Keeps [] w (w3.drewN nq) := HD.out.2.drewN nq
        have PT := HPUT.out nq
        go_wp2_with fail
        refine PT.mono ?_
        rintro e w4 ⟨rfl, nb4, H4, hnb4, K4⟩
        clear PT
        have KE := KD.trans K4 (cs := [w.heap.size, nb]) (bs := []) (by simp; omega)
        obtain ⟨na4, nc4, q0, _, _⟩ := H4.slots
        rw [HPN.out] at q0
        have GS2 := gsound_at w4 w.heap.size nb4 _ L' F' H4 HD.out.1 (by rw [HPN.out]; omega)
        clear KD K4 H4 hnb4
        go_wp2_with fail
        refine GS2.mono ?_
        rintro e w5 ⟨rfl, K5⟩
        go_wp2
        go_ret
        exact ⟨rfl, (KE.trans K5 (cs := []) (bs := []) (by simp)).below (Nat.le_refl _) (by simp)⟩
    · have hd1 : decide ((L.length : Int) < C) = false := decide_eq_false hsc
      rw [if_neg (by omega)] at PCN
      clear hf
      have HPN : Hid ((c.put key val).n = N) := PCN
      clear PCN hcnt hcap
      go_wp2_with fail
      refine PEEK.mono ?_
      rintro e w3 ⟨rfl, rfl⟩
      clear PEEK
      go_wp2_with fail
      go_quiet (fail)
      have KD : Keeps [] w (w3.drewN nq) := HD.out.2.drewN nq
      have PT := HPUT.out nq
      go_wp2_with fail
      refine PT.mono ?_
      rintro e w4 ⟨rfl, nb4, H4, hnb4, K4⟩
      clear PT
      have KE := KD.trans K4 (cs := [w.heap.size, nb]) (bs := []) (by simp; omega)
      obtain ⟨na4, nc4, q0, _, _⟩ := H4.slots
      rw [HPN.out] at q0
      have GS2 := gsound_at w4 w.heap.size nb4 _ L' F' H4 HD.out.1 (by rw [HPN.out]; omega)
      clear KD K4 H4 hnb4
      go_wp2_with fail
      refine GS2.mono ?_
      rintro e w5 ⟨rfl, K5⟩
      go_wp2
      go_ret
      exact ⟨rfl, (KE.trans K5 (cs := []) (bs := []) (by simp)).below (Nat.le_refl _) (by simp)⟩
  · rw [show (!decide (c.find key = -1)) = true by rw [decide_eq_false hf]; rfl] at PEEK
    rw [if_neg (by omega)] at PCN
    clear hf
    have HPN : Hid ((c.put key val).n = N) := PCN
    clear PCN hcnt hcap
    go_wp2_with fail
    refine PEEK.mono ?_
    rintro e w3 ⟨rfl, rfl⟩
    clear PEEK
    go_wp2_with fail
    go_quiet (fail)
    have KD : Keeps [] w (w3.drewN nq) := HD.out.2.drewN nq
    have PT := HPUT.out nq
    go_wp2_with fail
    refine PT.mono ?_
    rintro e w4 ⟨rfl, nb4, H4, hnb4, K4⟩
    clear PT
    have KE := KD.trans K4 (cs := [w.heap.size, nb]) (bs := []) (by simp; omega)
    obtain ⟨na4, nc4, q0, _, _⟩ := H4.slots
    rw [HPN.out] at q0
    have GS2 := gsound_at w4 w.heap.size nb4 _ L' F' H4 HD.out.1 (by rw [HPN.out]; omega)
    clear KD K4 H4 hnb4
    go_wp2_with fail
    refine GS2.mono ?_
    rintro e w5 ⟨rfl, K5⟩
    go_wp2
    go_ret
    exact ⟨rfl, (KE.trans K5 (cs := []) (bs := []) (by simp)).below (Nat.le_refl _) (by simp)⟩
end Go.Proofs.Ymbrdw
