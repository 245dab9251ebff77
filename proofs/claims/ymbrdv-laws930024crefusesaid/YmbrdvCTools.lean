/- The helpers of the laws C. -/
import Derived.Test.YmbrdvLists
namespace Go.Proofs.Ymbrdv
open Go.RowKit

theorem CacheAt.nodes {w : World} {cb nb : Nat} {c : Cs} (h : CacheAt w cb nb c) : ∃ na nc, w.cell? ⟨cb, 0, none⟩ = some (.slice na c.n nc) := by
  rcases h.nod with ⟨_, h1, h2⟩ | ⟨_, nc, h1, _⟩
  · exact ⟨none, 0, by rw [h2, h1]⟩
  · exact ⟨_, nc, h1⟩

set_option maxHeartbeats 2000000 in
theorem cempty_at (w : World) (cb : Nat) (cap : Int) (H : CacheAt w cb cb (Cs.new cap)) :
    Calls Ydvm.prog 28 #[.pointer (some ⟨cb, 0, none⟩), .int .i64 (max cap 0)] w fun e w' => e = .returned (.bool true) ∧ w' = w := by
  obtain ⟨na, nc, c0⟩ := H.nodes
  have c1 := H.c1
  have c2 := H.c2
  have c3 := H.c3
  have c4 := H.c4
  have c5 := H.c5
  have hl := H.lt
  unfold Cs.new at c0 c1 c2 c3 c4 c5
  dsimp only at c0 c1 c2 c3 c4 c5
  clear H
  generalize max cap 0 = mc at *
  go_enter Ydvm.func28, Ydvm.ntmps28
  go_wp2
  go_ret
  exact ⟨rfl, rfl⟩

theorem prv_succ {L : List Nat} {k x : Nat} (h : L[k]? = some x) : prv L (k + 1) = x := by unfold prv; rw [if_neg (by omega), Nat.add_sub_cancel]; exact nth_some h

/-- what cdistinct answers -/
def DistPost (len : Nat) (K : Nat → Int) (w : World) (e : Ending) (w' : World) : Prop := ∃ b, e = .returned (.bool b) ∧ (b = true ↔ Distinct len K) ∧ Keeps [] w w'

set_option maxHeartbeats 2000000 in
theorem cdistinct_at (w : World) (b off : Nat) (a : Option Addr) (len ecap : Nat) (K V : Nat → Int) (hE : InRow w b off a len 2 (ecell K V)) (hl : len ≤ 100000) :
    Calls Ydvm.prog 26 #[.slice a len ecap] w (DistPost len K w) := by
  have hl' : (len : Int) ≤ 100000 := by omega
  have HE : Hid (InRow w b off a len 2 (ecell K V)) := hE
  clear hE
  go_enter Ydvm.func26, Ydvm.ntmps26
  go_wp2
  go_loopw [3] (fun i wr => ∃ k : Nat, k ≤ len ∧ i = .int .i64 k ∧ Distinct k K ∧ Keeps [] w wr) (fun i _ => len - (intOf i).toNat)
  case atStart => exact ⟨0, by omega, rfl, fun i j _ h => absurd h (by omega), Keeps.refl _ _⟩
  case round =>
    obtain ⟨k, hk, rfl, hd, hK⟩ := hrel
    by_cases hlt : k < len
    · have hlt' : (k : Int) < (len : Int) := by omega
      have HD : Hid (Distinct k K ∧ Keeps [] w wr) := ⟨hd, hK⟩
      clear hd hK
      generalize wr = wo1 at *
      go_wp2
      go_loopw [4] (fun j wq => ∃ m : Nat, m ≤ k ∧ j = .int .i64 m ∧ (∀ t, t < m → K t ≠ K k) ∧ Keeps [] wo1 wq) (fun j _ => k - (intOf j).toNat)
      case atStart => exact ⟨0, by omega, rfl, fun t h => absurd h (by omega), Keeps.refl _ _⟩
      case round =>
        obtain ⟨m, hm, rfl, hno, hK2⟩ := hrel
        by_cases hml : m < k
        · have hml' : (m : Int) < (k : Int) := by omega
          have hml2 : (m : Int) < (len : Int) := by omega
          have E1 := (HE.out.keeps HD.out.2 (by simp)).keeps hK2 (by simp)
          obtain ⟨e0, _⟩ := E1.ents m (by omega)
          obtain ⟨f0, _⟩ := E1.ents k hlt
          obtain rfl := E1.addr (by omega)
          have HN : Hid ((∀ t, t < m → K t ≠ K k) ∧ Keeps [] wo1 wr) := ⟨hno, hK2⟩
          clear hno hK2 E1
          by_cases heq : K k = K m
          · rw [heq] at f0
            have HQ : Hid (K k = K m) := heq
            clear heq
            go_wp2
            go_quiet (fail)
            go_wp2
            go_ret
            refine ⟨false, rfl, ⟨fun h => absurd h (by simp), fun h => absurd HQ.out.symm (h m k hml hlt)⟩, (HD.out.2.trans HN.out.2 (cs := []) (bs := []) (by simp)).drewN _⟩
          · have hb : (K k == K m) = false := beq_eq_false_iff_ne.2 heq
            have HQ : Hid (¬ K k = K m) := heq
            clear heq
            go_wp2
            go_quiet (fail)
            go_wp2
            go_roundw
            case rel =>
              refine ⟨m + 1, by omega, by go_num, fun t ht => ?_, HN.out.2.drewN _⟩
              by_cases e : t = m
              · rw [e]; exact fun h => HQ.out h.symm
              · exact HN.out.1 t (by omega)
            case measure => simp [intOf]; omega
        · have hml' : ¬ (m : Int) < (k : Int) := by omega
          obtain rfl : m = k := by omega
          have HN : Hid ((∀ t, t < m → K t ≠ K m) ∧ Keeps [] wo1 wr) := ⟨hno, hK2⟩
          clear hno hK2
          go_wp2
          go_roundw
          case rel =>
            refine ⟨m + 1, by omega, by go_num, fun i j h1 h2 => ?_, HD.out.2.trans HN.out.2 (by simp)⟩
            by_cases e : j = m
            · subst e; exact HN.out.1 i h1
            · exact HD.out.1 i j h1 (by omega)
          case measure => simp [intOf]; omega
    · have hlt' : ¬ (k : Int) < (len : Int) := by omega
      obtain rfl : k = len := by omega
      go_wp2
      go_ret
      exact ⟨true, rfl, ⟨fun _ => hd, fun _ => rfl⟩, hK⟩

set_option maxRecDepth 100000 in
set_option maxHeartbeats 4000000 in
theorem cholds_at (w : World) (cb nb : Nat) (c : Cs) (L : List Nat) (H : CacheAt w cb nb c) (h : Ch c L) (hn : c.n = L.length) (hf : c.free = -1) (hN : L.length ≤ 1000000)
    (b off : Nat) (a : Option Addr) (ecap : Nat) (K V : Nat → Int) (hE : InRow w b off a L.length 2 (ecell K V)) (hkv : ∀ j x, L[j]? = some x → c.key x = K j ∧ c.val x = V j) :
    Calls Ydvm.prog 29 #[.pointer (some ⟨cb, 0, none⟩), .int .i64 c.cap, .slice a L.length ecap] w fun e w' => e = .returned (.bool true) ∧ Keeps [] w w' := by
  obtain ⟨na, nc, c0⟩ := H.nodes
  have c1 := H.c1
  have c2 := H.c2
  have c3 := H.c3
  have c4 := H.c4
  have c5 := H.c5
  have hl := H.lt
  rw [hn] at c0
  rw [h.head] at c1
  rw [h.tail] at c2
  rw [hf] at c3
  rw [h.size] at c4
  have hLi : (L.length : Int) ≤ 1000000 := by omega
  have HH : Hid (CacheAt w cb nb c ∧ Ch c L ∧ c.n = L.length ∧ InRow w b off a L.length 2 (ecell K V) ∧ (∀ j x, L[j]? = some x → c.key x = K j ∧ c.val x = V j)) := ⟨H, h, hn, hE, hkv⟩
  have hcc := c2
  clear H h hn hE hkv c2
  generalize c.cap = cc at *
  go_enter Ydvm.func29, Ydvm.ntmps29
  go_wp2
  clear c0 c1 c3 c4 c5
  go_loopw [7, 8, 9] (fun p a j wr => ∃ k : Nat, k ≤ L.length ∧ j = .int .i64 k ∧ a = .int .i64 (nth L k) ∧ p = .int .i64 (prv L k) ∧ Keeps [] w wr) (fun _ _ j _ => L.length - (intOf j).toNat)
  case atStart => exact ⟨0, by omega, rfl, rfl, rfl, Keeps.refl _ _⟩
  case round =>
    obtain ⟨k, hk, rfl, rfl, rfl, hK⟩ := hrel
    by_cases hlt : k < L.length
    · have hlt' : (k : Int) < (L.length : Int) := by omega
      obtain ⟨x, hx⟩ : ∃ x, L[k]? = some x := ⟨L[k], List.getElem?_eq_getElem hlt⟩
      have hxn : x < L.length := by rw [← HH.out.2.2.1]; exact HH.out.2.1.lt x (List.mem_of_getElem? hx)
      have hxi : (x : Int) < (L.length : Int) := by omega
      have hx0 : ¬ (x : Int) < 0 := by omega
      have H1 := HH.out.1.keeps hK (by simp) (by simp)
      obtain ⟨hne, ncap, d0, r⟩ := H1.row (by rw [HH.out.2.2.1]; omega)
      rw [HH.out.2.2.1] at d0
      obtain ⟨k0, k1, k2, k3, _⟩ := r.nodes
      have e0 := k0 x (by rw [HH.out.2.2.1]; omega)
      have e1 := k1 x (by rw [HH.out.2.2.1]; omega)
      have e2 := k2 x (by rw [HH.out.2.2.1]; omega)
      have e3 := k3 x (by rw [HH.out.2.2.1]; omega)
      rw [(HH.out.2.2.2.2 k x hx).1] at e0
      rw [(HH.out.2.2.2.2 k x hx).2] at e1
      rw [HH.out.2.1.prev k x hx] at e2
      rw [HH.out.2.1.next k x hx] at e3
      have E1 := HH.out.2.2.2.1.keeps hK (by simp)
      obtain ⟨f0, f1⟩ := E1.ents k hlt
      obtain rfl := E1.addr (by omega)
      rw [nth_some hx]
      have HX : Hid (L[k]? = some x ∧ Keeps [] w wr) := ⟨hx, hK⟩
      have hcl := H1.lt
      have hnl := H1.nlt
      clear hx hK k0 k1 k2 k3 r E1 H1
      generalize hp : prv L k = pk at *
      have HP : Hid (prv L k = pk) := hp
      clear hp
      generalize hq : nth L (k + 1) = qk at *
      have HQ : Hid (nth L (k + 1) = qk) := hq
      clear hq
      go_wp2
      go_quiet (fail)
      go_wp2
      go_roundw
      case rel => exact ⟨k + 1, by omega, by go_num, by rw [HQ.out], by rw [prv_succ HX.out.1], HX.out.2.drewN _⟩
      case measure => simp [intOf]; omega
    · have hlt' : ¬ (k : Int) < (L.length : Int) := by omega
      obtain rfl : k = L.length := by omega
      rw [nth_ge (Nat.le_refl _)]
      have d2 := hK.cell hcc (by simp)
      have hcl : cb < wr.heap.size := by have := hK.size; omega
      generalize prv L L.length = pk at *
      go_wp2
      go_ret
      exact ⟨rfl, hK⟩

/-- an incoming slice of numbers -/
theorem InInts.row {w : World} {a : Option Addr} {len : Nat} {f : Nat → Int} (h : InInts .i64 w a len f) : ∃ b off, InRow w b off a len 1 (icell f) := h.1

/-- the keys that cbuild makes -/
def ckey (base st : Int) : Nat → Int
  | 0 => base
  | n + 1 => wrap64 (ckey base st n + wrap64 (wrap64 (2 * st) + 1))
theorem ckey_eq (base st : Int) (hb : -9223372036854775808 ≤ base ∧ base ≤ 9223372036854775807) : ∀ n : Nat, ckey base st n = wrap64 (base + n * (2 * st + 1))
  | 0 => by unfold ckey wrap64; simp; omega
  | n + 1 => by
    show wrap64 (ckey base st n + wrap64 (wrap64 (2 * st) + 1)) = _
    rw [ckey_eq base st hb n, show base + ((n + 1 : Nat) : Int) * (2 * st + 1) = (base + n * (2 * st + 1)) + (2 * st + 1) by rw [Int.natCast_add, Int.add_mul]; omega]
    generalize base + (n : Int) * (2 * st + 1) = q
    unfold wrap64; omega
theorem odd_dvd (s : Int) : ∀ (k : Nat) (d : Int), ((2 : Int) ^ k) ∣ d * (2 * s + 1) → ((2 : Int) ^ k) ∣ d
  | 0, d, _ => by simp
  | k + 1, d, h => by
    obtain ⟨q, hq⟩ := h
    rw [Int.pow_succ] at hq ⊢
    have e : d * (2 * s + 1) = 2 * (d * s) + d := by rw [Int.mul_add, Int.mul_one, ← Int.mul_assoc, Int.mul_comm d 2, Int.mul_assoc]
    have h2 : (2 : Int) ^ k * 2 * q = 2 * ((2 : Int) ^ k * q) := by rw [Int.mul_comm ((2 : Int) ^ k) 2, Int.mul_assoc]
    obtain ⟨d', rfl⟩ : ∃ d', d = 2 * d' := ⟨d / 2, by rw [e, h2] at hq; generalize d * s = x at hq; generalize (2 : Int) ^ k * q = y at hq; omega⟩
    have h3 : d' * (2 * s + 1) = (2 : Int) ^ k * q := by
      rw [h2, Int.mul_assoc] at hq
      generalize d' * (2 * s + 1) = x at *
      generalize (2 : Int) ^ k * q = y at *
      omega
    obtain ⟨q', hq'⟩ := odd_dvd s k d' ⟨q, h3⟩
    exact ⟨q', by rw [hq', Int.mul_comm ((2 : Int) ^ k) 2, Int.mul_assoc]⟩
theorem ckey_distinct (base st : Int) (hb : -9223372036854775808 ≤ base ∧ base ≤ 9223372036854775807) (n : Nat) (hn : n ≤ 100000) : Distinct n (ckey base st) := by
  intro i j h1 h2 he
  rw [ckey_eq base st hb, ckey_eq base st hb] at he
  have hd : ((2 : Int) ^ 64) ∣ ((j - i : Nat) : Int) * (2 * st + 1) := by
    rw [show ((j - i : Nat) : Int) = (j : Int) - i by omega, Int.sub_mul]
    generalize (j : Int) * (2 * st + 1) = x at *
    generalize (i : Int) * (2 * st + 1) = y at *
    unfold wrap64 at he
    exact ⟨(x - y) / 18446744073709551616, by have : (2 : Int) ^ 64 = 18446744073709551616 := by decide
                                              rw [this]; omega⟩
  obtain ⟨q, hq⟩ := odd_dvd st 64 _ hd
  have : (2 : Int) ^ 64 = 18446744073709551616 := by decide
  rw [this] at hq
  omega

theorem upd_self (f : Nat → Int) (n : Nat) : upd f n (f n) = f := funext fun j => by unfold upd; split <;> simp_all

/-- what cbuild answers -/
def CbuildPost (base st : Int) (len : Nat) (V : Nat → Int) (w : World) (e : Ending) (w' : World) : Prop :=
  ∃ b' cap', e = .returned (.slice (some ⟨b', 0, none⟩) len cap') ∧ RowAt w' b' 36 2 len cap' (ecell (ckey base st) V) ∧ w.heap.size ≤ b' ∧ Keeps [] w w'

set_option maxRecDepth 100000 in
set_option maxHeartbeats 4000000 in
theorem cbuild_at (w : World) (base st : Int) (b off : Nat) (a : Option Addr) (len ecap : Nat) (V : Nat → Int) (hE : InRow w b off a len 1 (icell V)) (hl : len ≤ 100000) :
    Calls Ydvm.prog 30 #[.int .i64 base, .int .i64 st, .slice a len ecap] w (CbuildPost base st len V w) := by
  have hl' : (len : Int) ≤ 100000 := by omega
  have HE : Hid (InRow w b off a len 1 (icell V)) := hE
  have hmk := make_entries0 (len + 1) (by omega)
  rw [show ((len + 1 : Nat) : Int) = (len : Int) + 1 by omega] at hmk
  obtain ⟨i0, hi0, hz0, hz1, hz2⟩ := info_parts infoEntry
  clear hE
  go_enter Ydvm.func30, Ydvm.ntmps30
  go_wp2
  go_loopw [7, 8, 9] (fun o ky j wr => ∃ k bk ck : Nat, k ≤ len ∧ j = .int .i64 k ∧ ky = .int .i64 (ckey base st k) ∧ o = .slice (some ⟨bk, 0, none⟩) k ck ∧ RowAt wr bk 36 2 k ck (ecell (ckey base st) V) ∧ w.heap.size ≤ bk ∧ Keeps [] w wr) (fun _ _ j _ => len - (intOf j).toNat)
  case atStart => exact ⟨0, _, _, by omega, rfl, rfl, rfl, RowAt.made0 _ _ _ _ _ (by unfold maxLen; omega), Nat.le_refl _, (Keeps.refl _ _).alloc _⟩
  case round =>
    obtain ⟨k, bk, ck, hk, rfl, rfl, rfl, hR, hbk, hK⟩ := hrel
    have hkz := hK.size
    by_cases hlt : k < len
    · have hlt' : (k : Int) < (len : Int) := by omega
      have E1 := HE.out.keeps hK (by simp)
      have e0 := E1.ints k hlt
      obtain rfl := E1.addr (by omega)
      have HI : Hid (RowAt wr bk 36 2 k ck (ecell (ckey base st) V) ∧ Keeps [] w wr ∧ ckey base st (k + 1) = wrap64 (ckey base st k + wrap64 (wrap64 (2 * st) + 1))) := ⟨hR, hK, rfl⟩
      clear hR hK E1
      generalize hky : ckey base st k = ky at *
      have HY : Hid (ckey base st k = ky) := hky
      clear hky
      go_wp2_with (at_builtin; refine wp_append1 _ rfl (.tmp 21) (.tmp 28) 49 rfl 36 i0 _ 2 16 Ydvm.underlying49 hi0 hz0 hz1 hz2 rfl (by omega) (.slice (some ⟨bk, 0, none⟩) k ck) k (ecell (ckey base st) V) rfl ?hS wr.heap.size rfl #[.int .i64 ky, .int .i64 (V k)] 36 ?hB rfl ?h1 (by omega) (by omega) ?_)
      case hS => exact (HI.out.1.alloc _).sliceAt
      case hB => first | exact heap_alloc_new _ _ | exact (Array.getElem?_eq_some_iff.1 (heap_alloc_new _ _)).2
      case h1 => first | exact ⟨rfl, rfl⟩ | (simp; exact ⟨rfl, rfl⟩)
      intro b' cap' w2 hr2 hk2 hbb2
      have hr3 : RowAt w2 b' 36 2 (k + 1) cap' (ecell (ckey base st) V) := hr2.congr fun j hj => by
        rw [snoc_ecell _ _ _ _ _ _ hj, ← HY.out, upd_self, upd_self]
      have hk3 : Keeps [] w w2 := (HI.out.2.1.alloc _).trans hk2 (fun x hx => .inr (by simp [Value.ownBlock] at hx; omega))
      have hb3 : w.heap.size ≤ b' := by
        rcases hbb2 with h | h
        · simp [Value.ownBlock] at h; omega
        · (try simp at h); omega
      have HN : Hid (RowAt w2 b' 36 2 (k + 1) cap' (ecell (ckey base st) V) ∧ Keeps [] w w2) := ⟨hr3, hk3⟩
      clear hr2 hk2 hbb2 hr3 hk3 e0
      go_wp2
      go_roundw
      case rel => exact ⟨k + 1, b', cap', by omega, by go_num, by rw [HI.out.2.2], rfl, HN.out.1, hb3, HN.out.2⟩
      case measure => simp [intOf]; omega
    · have hlt' : ¬ (k : Int) < (len : Int) := by omega
      obtain rfl : k = len := by omega
      go_wp2
      go_ret
      exact ⟨bk, ck, rfl, hR, hbk, hK⟩
end Go.Proofs.Ymbrdv
