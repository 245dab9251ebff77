/- The law JSlot: her walk. -/
import Derived.Test.YmbrdxJBuild
namespace Go.Proofs.Ymbrdx
open Go.RowKit

/-- the first of the last d positions that holds the key -/
def wantF (K : Nat → Int) (key : Int) (sl : Nat → Nat) (n : Nat) : Nat → Int
  | 0 => -1
  | d + 1 => if K (n - (d + 1)) = key then (sl (n - (d + 1)) : Int) else wantF K key sl n d
theorem find_want {c : Cs} {n : Nat} {sl : Nat → Nat} {K : Nat → Int} (h : Ch c ((List.range n).map sl)) (hk : ∀ j, j < n → c.key (sl j) = K j) (key : Int) : c.find key = wantF K key sl n n := by
  have hg : ∀ j, j < n → ((List.range n).map sl)[j]? = some (sl j) := fun j hj => by simp [hj]
  have hs : c.size = n := by have := h.size; simpa using this
  have H : ∀ d, d ≤ n → c.findFrom key d (nth ((List.range n).map sl) (n - d)) = wantF K key sl n d := by
    intro d
    induction d with
    | zero => intro _; rfl
    | succ d ih =>
      intro hd
      have hq : n - (d + 1) < n := by omega
      rw [nth_some (hg _ hq)]
      show (if c.key ((sl (n - (d + 1)) : Nat) : Int).toNat = key then _ else c.findFrom key d (c.next ((sl (n - (d + 1)) : Nat) : Int).toNat)) = (if K (n - (d + 1)) = key then _ else _)
      rw [Int.toNat_natCast, hk _ hq, h.next _ _ (hg _ hq), show n - (d + 1) + 1 = n - d by omega, ih (by omega)]
  unfold Cs.find
  rw [hs, Int.toNat_natCast, h.head]
  have := H n (Nat.le_refl _)
  rw [Nat.sub_self] at this
  exact this
theorem rem_natJ (a : Int) (n : Nat) (hn : 0 < n) : ∃ i : Nat, a % (n : Int) = i ∧ i < n := ⟨(a % (n : Int)).toNat, by have := Int.emod_nonneg a (show (n : Int) ≠ 0 by omega); omega, by have := Int.emod_lt_of_pos a (show (0 : Int) < n by omega); have := Int.emod_nonneg a (show (n : Int) ≠ 0 by omega); omega⟩

set_option maxRecDepth 100000 in
set_option maxHeartbeats 4000000 in
theorem walk_JSlot (w : World) (a0 : Option Addr) (n cap : Nat) (K : Nat → Int) (hz : InInts .i64 w a0 n K) (a1 : Int) (w1 : (Lit.int .u8 a1).wf = true) (sh : Int) (w2 : (Lit.int .u16 sh).wf = true) (back hit : Bool) (a5 : Int) (w5 : (Lit.int .u16 a5).wf = true) (key : Int) (_w6 : (Lit.int .i64 key).wf = true) :
    Calls Ydxm.prog 6 #[.slice a0 n cap, .int .u8 a1, .int .u16 sh, .bool back, .bool hit, .int .u16 a5, .int .i64 key] w fun e w' => e = .returned (.bool true) ∧ Below w.heap.size w w' := by
  by_cases hbig : 1024 < n
  · have hbig' : (1024 : Int) < (n : Int) := by omega
    go_enter Ydxm.func6, Ydxm.ntmps6
    go_wp2
    go_ret
    exact ⟨rfl, Below.refl _ _⟩
  have hlen : (n : Int) ≤ 1024 := by omega
  obtain ⟨⟨b, off, hE⟩, _⟩ := hz
  obtain ⟨h10, h11⟩ := wf_u8 w1
  obtain ⟨h20, h21⟩ := wf_u16 w2
  obtain ⟨h50, h51⟩ := wf_u16 w5
  obtain ⟨s, rfl⟩ : ∃ s : Nat, sh = s := ⟨sh.toNat, by omega⟩
  obtain ⟨f, hf0, hf1⟩ := rem_natJ a1 8 (by omega)
  have hf2 : a1 % 8 = (f : Int) := hf0
  have hf3 : (f : Int) < 8 := by omega
  have hbw := hE.lt
  have HE : Hid _ := hE
  have JB := jbuild_at w b off a0 n cap f s back K hE (by omega) (by omega) (by omega)
  have JS : ∀ (W : World) (p : Nat), p < n + f → Calls Ydxm.prog 23 #[.int .i64 (p : Int), .int .i64 ((n : Int) + (f : Int)), .int .u16 (s : Int), .bool back] W fun e w' => e = .returned (.int .i64 (jsl s (n + f) back p : Nat)) ∧ w' = W := fun W p hp => jslot_at W p (n + f) s back (by omega) (by omega) (by omega) (by omega)
  have HJS : Hid _ := JS
  clear hE w1 w2 w5 _w6 hf0 JS
  cases hit
  · go_enter Ydxm.func6, Ydxm.ntmps6
    go_wp2_with fail
    refine JB.mono ?_
    rintro e w3 ⟨cb, nb, c, rfl, H3, hch, hkk, K3⟩
    have hsz := hch.size
    have FND := fun W (HW : CacheAt W cb nb c) => find_at cb nb key c W HW (by rw [hsz]; simp) (by rw [hsz]; simp; omega) hch.slots
    rw [find_want hch hkk key] at FND
    have HS : Hid (CacheAt w3 cb nb c ∧ Keeps [] w w3) := ⟨H3, K3⟩
    have HFN : Hid _ := FND
    clear JB H3 hch hkk K3 hsz FND
    go_wp2
    go_loopw [19, 20] (fun v q wr => ∃ d : Nat, d ≤ n ∧ v = .int .i64 (wantF K key (jsl s (n + f) back) n d) ∧ q = .int .i64 ((n : Int) - 1 - d) ∧ wr = w3) (fun _ q _ => (intOf q + 1).toNat)
    case atStart => exact ⟨0, by omega, rfl, by simp, rfl⟩
    case round =>
      obtain ⟨d, hd, rfl, rfl, hwr⟩ := hrel
      subst hwr
      by_cases hdn : d < n
      · obtain ⟨q, hq⟩ : ∃ q : Nat, q = n - (d + 1) := ⟨_, rfl⟩
        have hqi : (n : Int) - 1 - d = (q : Int) := by omega
        have hqn : q < n := by omega
        have hqn' : (q : Int) < (n : Int) := by omega
        rw [hqi]
        have E1 := HE.out.keeps HS.out.2 (by simp)
        have g0 := E1.cell q (by omega)
        have hadr := E1.addr (by omega)
        try subst hadr
        try clear hadr
        have JP := fun W => HJS.out W q (by omega)
        have ew : wantF K key (jsl s (n + f) back) n (d + 1) = if K q = key then (jsl s (n + f) back q : Int) else wantF K key (jsl s (n + f) back) n d := by
          show (if K (n - (d + 1)) = key then (jsl s (n + f) back (n - (d + 1)) : Int) else _) = _
          rw [← hq]
        have HEW : Hid _ := ew
        have HQ : Hid ((n : Int) - 1 - d = (q : Int)) := hqi
        clear hqi ew E1 hq
        by_cases hk : K q = key
        · rw [hk] at g0
          rw [if_pos hk] at HEW
          have HKQ : Hid _ := hk
          clear hk
          go_wp2_with fail
          refine (JP _).mono ?_
          rintro e w4 ⟨rfl, rfl⟩
          go_wp2
          go_roundw
          case rel =>
            have := HQ.out
            exact ⟨d + 1, by omega, by rw [HEW.out], by rw [show ((n : Int) - 1 - ((d + 1 : Nat) : Int)) = (q : Int) - 1 by omega], trivial⟩
          case measure => (try simp [intOf]); (try omega)
        · have hkb : (K q == key) = false := beq_eq_false_iff_ne.2 hk
          rw [if_neg hk] at HEW
          clear hk
          go_wp2
          go_roundw
          case rel =>
            have := HQ.out
            exact ⟨d + 1, by omega, by rw [HEW.out], by rw [show ((n : Int) - 1 - ((d + 1 : Nat) : Int)) = (q : Int) - 1 by omega], trivial⟩
          case measure => (try simp [intOf]); (try omega)
      · obtain rfl : d = n := by omega
        have hi : (d : Int) - 1 - d = -1 := by omega
        rw [hi]
        go_wp2_with fail
        refine (HFN.out _ HS.out.1).mono ?_
        rintro e w4 ⟨rfl, rfl⟩
        go_wp2
        go_ret
        exact ⟨rfl, HS.out.2.below (Nat.le_refl _) (by simp)⟩
  · by_cases h0 : 0 < n
    · have h0' : (0 : Int) < (n : Int) := by omega
      have hb0 : ((n : Int) == 0) = false := beq_eq_false_iff_ne.2 (by omega)
      obtain ⟨j, hj0, hj1⟩ := rem_natJ a5 n h0
      have hj2 : (j : Int) < (n : Int) := by omega
      have g9 := HE.out.cell j (by omega)
      obtain rfl := HE.out.addr (by omega)
      go_enter Ydxm.func6, Ydxm.ntmps6
      go_wp2_with fail
      refine JB.mono ?_
      rintro e w3 ⟨cb, nb, c, rfl, H3, hch, hkk, K3⟩
      have hsz := hch.size
      have FND := fun W (HW : CacheAt W cb nb c) => find_at cb nb (K j) c W HW (by rw [hsz]; simp) (by rw [hsz]; simp; omega) hch.slots
      rw [find_want hch hkk (K j)] at FND
      have HS : Hid (CacheAt w3 cb nb c ∧ Keeps [] w w3) := ⟨H3, K3⟩
      have HFN : Hid _ := FND
      clear JB H3 hch hkk K3 hsz FND
      go_wp2
      go_loopw [19, 20] (fun v q wr => ∃ d : Nat, d ≤ n ∧ v = .int .i64 (wantF K (K j) (jsl s (n + f) back) n d) ∧ q = .int .i64 ((n : Int) - 1 - d) ∧ wr = w3) (fun _ q _ => (intOf q + 1).toNat)
      case atStart => exact ⟨0, by omega, rfl, by simp, rfl⟩
      case round =>
        obtain ⟨d, hd, rfl, rfl, hwr⟩ := hrel
        subst hwr
        by_cases hdn : d < n
        · obtain ⟨q, hq⟩ : ∃ q : Nat, q = n - (d + 1) := ⟨_, rfl⟩
          have hqi : (n : Int) - 1 - d = (q : Int) := by omega
          have hqn : q < n := by omega
          have hqn' : (q : Int) < (n : Int) := by omega
          rw [hqi]
          have E1 := HE.out.keeps HS.out.2 (by simp)
          have g0 := E1.cell q (by omega)
          have hadr := E1.addr (by omega)
          try subst hadr
          try clear hadr
          have JP := fun W => HJS.out W q (by omega)
          have ew : wantF K (K j) (jsl s (n + f) back) n (d + 1) = if K q = (K j) then (jsl s (n + f) back q : Int) else wantF K (K j) (jsl s (n + f) back) n d := by
            show (if K (n - (d + 1)) = (K j) then (jsl s (n + f) back (n - (d + 1)) : Int) else _) = _
            rw [← hq]
          have HEW : Hid _ := ew
          have HQ : Hid ((n : Int) - 1 - d = (q : Int)) := hqi
          clear hqi ew E1 hq
          by_cases hk : K q = (K j)
          · rw [hk] at g0
            rw [if_pos hk] at HEW
            have HKQ : Hid _ := hk
            clear hk
            go_wp2_with fail
            refine (JP _).mono ?_
            rintro e w4 ⟨rfl, rfl⟩
            go_wp2
            go_roundw
            case rel =>
              have := HQ.out
              exact ⟨d + 1, by omega, by rw [HEW.out], by rw [show ((n : Int) - 1 - ((d + 1 : Nat) : Int)) = (q : Int) - 1 by omega], trivial⟩
            case measure => (try simp [intOf]); (try omega)
          · have hkb : (K q == (K j)) = false := beq_eq_false_iff_ne.2 hk
            rw [if_neg hk] at HEW
            clear hk
            go_wp2
            go_roundw
            case rel =>
              have := HQ.out
              exact ⟨d + 1, by omega, by rw [HEW.out], by rw [show ((n : Int) - 1 - ((d + 1 : Nat) : Int)) = (q : Int) - 1 by omega], trivial⟩
            case measure => (try simp [intOf]); (try omega)
        · obtain rfl : d = n := by omega
          have hi : (d : Int) - 1 - d = -1 := by omega
          rw [hi]
          go_wp2_with fail
          refine (HFN.out _ HS.out.1).mono ?_
          rintro e w4 ⟨rfl, rfl⟩
          go_wp2
          go_ret
          exact ⟨rfl, HS.out.2.below (Nat.le_refl _) (by simp)⟩
    · have h0' : ¬ (0 : Int) < (n : Int) := by omega
      go_enter Ydxm.func6, Ydxm.ntmps6
      go_wp2_with fail
      refine JB.mono ?_
      rintro e w3 ⟨cb, nb, c, rfl, H3, hch, hkk, K3⟩
      have hsz := hch.size
      have FND := fun W (HW : CacheAt W cb nb c) => find_at cb nb key c W HW (by rw [hsz]; simp) (by rw [hsz]; simp; omega) hch.slots
      rw [find_want hch hkk key] at FND
      have HS : Hid (CacheAt w3 cb nb c ∧ Keeps [] w w3) := ⟨H3, K3⟩
      have HFN : Hid _ := FND
      clear JB H3 hch hkk K3 hsz FND
      go_wp2
      go_loopw [19, 20] (fun v q wr => ∃ d : Nat, d ≤ n ∧ v = .int .i64 (wantF K key (jsl s (n + f) back) n d) ∧ q = .int .i64 ((n : Int) - 1 - d) ∧ wr = w3) (fun _ q _ => (intOf q + 1).toNat)
      case atStart => exact ⟨0, by omega, rfl, by simp, rfl⟩
      case round =>
        obtain ⟨d, hd, rfl, rfl, hwr⟩ := hrel
        subst hwr
        by_cases hdn : d < n
        · obtain ⟨q, hq⟩ : ∃ q : Nat, q = n - (d + 1) := ⟨_, rfl⟩
          have hqi : (n : Int) - 1 - d = (q : Int) := by omega
          have hqn : q < n := by omega
          have hqn' : (q : Int) < (n : Int) := by omega
          rw [hqi]
          have E1 := HE.out.keeps HS.out.2 (by simp)
          have g0 := E1.cell q (by omega)
          have hadr := E1.addr (by omega)
          try subst hadr
          try clear hadr
          have JP := fun W => HJS.out W q (by omega)
          have ew : wantF K key (jsl s (n + f) back) n (d + 1) = if K q = key then (jsl s (n + f) back q : Int) else wantF K key (jsl s (n + f) back) n d := by
            show (if K (n - (d + 1)) = key then (jsl s (n + f) back (n - (d + 1)) : Int) else _) = _
            rw [← hq]
          have HEW : Hid _ := ew
          have HQ : Hid ((n : Int) - 1 - d = (q : Int)) := hqi
          clear hqi ew E1 hq
          by_cases hk : K q = key
          · rw [hk] at g0
            rw [if_pos hk] at HEW
            have HKQ : Hid _ := hk
            clear hk
            go_wp2_with fail
            refine (JP _).mono ?_
            rintro e w4 ⟨rfl, rfl⟩
            go_wp2
            go_roundw
            case rel =>
              have := HQ.out
              exact ⟨d + 1, by omega, by rw [HEW.out], by rw [show ((n : Int) - 1 - ((d + 1 : Nat) : Int)) = (q : Int) - 1 by omega], trivial⟩
            case measure => (try simp [intOf]); (try omega)
          · have hkb : (K q == key) = false := beq_eq_false_iff_ne.2 hk
            rw [if_neg hk] at HEW
            clear hk
            go_wp2
            go_roundw
            case rel =>
              have := HQ.out
              exact ⟨d + 1, by omega, by rw [HEW.out], by rw [show ((n : Int) - 1 - ((d + 1 : Nat) : Int)) = (q : Int) - 1 by omega], trivial⟩
            case measure => (try simp [intOf]); (try omega)
        · obtain rfl : d = n := by omega
          have hi : (d : Int) - 1 - d = -1 := by omega
          rw [hi]
          go_wp2_with fail
          refine (HFN.out _ HS.out.1).mono ?_
          rintro e w4 ⟨rfl, rfl⟩
          go_wp2
          go_ret
          exact ⟨rfl, HS.out.2.below (Nat.le_refl _) (by simp)⟩
end Go.Proofs.Ymbrdx
