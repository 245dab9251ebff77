/- The law GRecent: her walk. -/
import Derived.Test.YmbrdwPlain3
import Derived.Test.YmbrdwSame
namespace Go.Proofs.Ymbrdw
open Go.RowKit

/-- the kept entries among the last p, from the back -/
def backPart (len : Nat) (K V : Nat → Int) : Nat → List (Int × Int)
  | 0 => []
  | p + 1 => backPart len K V p ++ (if keepB len K (len - 1 - p) then [(K (len - 1 - p), V (len - 1 - p))] else [])

theorem backPart_pre (len : Nat) (K V : Nat → Int) (p q : Nat) (h : p ≤ q) : ∃ t, backPart len K V q = backPart len K V p ++ t := by
  induction q with
  | zero => exact ⟨[], by rw [show p = 0 by omega]; rfl⟩
  | succ q ih =>
    by_cases e : p = q + 1
    · exact ⟨[], by rw [e, List.append_nil]⟩
    · obtain ⟨t, ht⟩ := ih (by omega)
      exact ⟨t ++ _, by show backPart len K V q ++ _ = _; rw [ht, List.append_assoc]⟩

theorem backPart_rev (len : Nat) (K V : Nat → Int) : ∀ p, p ≤ len → backPart len K V p = ((((List.range len).drop (len - p)).filter (keepB len K)).map fun i => (K i, V i)).reverse
  | 0, _ => by rw [Nat.sub_zero, List.drop_of_length_le (by simp)]; rfl
  | p + 1, hp => by
    show backPart len K V p ++ _ = _
    rw [backPart_rev len K V p (by omega)]
    have hd : (List.range len).drop (len - (p + 1)) = (len - 1 - p) :: (List.range len).drop (len - p) := by
      rw [List.drop_eq_getElem_cons (by simp; omega)]
      congr 1
      · simp; omega
      · congr 1; omega
    rw [hd, List.filter_cons]
    split
    · rw [List.map_cons, List.reverse_cons]
    · rw [List.append_nil]
theorem backPart_all (len : Nat) (K V : Nat → Int) : backPart len K V len = (lastOcc len K V).reverse := by
  rw [backPart_rev len K V len (Nat.le_refl _), Nat.sub_self, List.drop_zero]; rfl
theorem backPart_le (len : Nat) (K V : Nat → Int) : ∀ p, (backPart len K V p).length ≤ p
  | 0 => Nat.le_refl _
  | p + 1 => by
    show (backPart len K V p ++ _).length ≤ _
    rw [List.length_append]
    have := backPart_le len K V p
    split <;> simp <;> omega

/-- the last entry of a key stands for it -/
theorem last_of (len : Nat) (K : Nat → Int) (x : Int) : ∀ d i, i + d = len → (∃ j, i ≤ j ∧ j < len ∧ K j = x) → ∃ j, i ≤ j ∧ j < len ∧ K j = x ∧ keepB len K j = true
  | 0, i, hi, ⟨j, h1, h2, _⟩ => absurd h2 (by omega)
  | d + 1, i, hi, ⟨j, h1, h2, h3⟩ => by
    by_cases h : ∃ j, i + 1 ≤ j ∧ j < len ∧ K j = x
    · obtain ⟨j', a, b, c, e⟩ := last_of len K x d (i + 1) (by omega) h
      exact ⟨j', by omega, b, c, e⟩
    · have hj : j = i := by
        by_cases e : j = i
        · exact e
        · exact absurd ⟨j, by omega, h2, h3⟩ h
      subst hj
      exact ⟨j, h1, h2, h3, keepB_iff.2 fun t a b e => h ⟨t, a, b, by rw [e]; exact h3⟩⟩
theorem mem_backPart (len : Nat) (K V : Nat → Int) : ∀ p, p ≤ len → ∀ x, (∃ e ∈ backPart len K V p, e.1 = x) ↔ ∃ j, len - p ≤ j ∧ j < len ∧ K j = x
  | 0, hp, x => by simp [backPart]; intro j h1 h2; omega
  | p + 1, hp, x => by
    have ih := mem_backPart len K V p (by omega) x
    constructor
    · rintro ⟨e, he, rfl⟩
      rcases List.mem_append.1 he with h | h
      · obtain ⟨j, a, b, c⟩ := ih.1 ⟨e, h, rfl⟩
        exact ⟨j, by omega, b, c⟩
      · split at h
        · simp at h; subst h; exact ⟨len - 1 - p, by omega, by omega, rfl⟩
        · simp at h
    · rintro ⟨j, a, b, c⟩
      obtain ⟨j', a', b', c', k'⟩ := last_of len K x (p + 1) (len - (p + 1)) (by omega) ⟨j, a, b, c⟩
      by_cases e : j' = len - 1 - p
      · refine ⟨(K (len - 1 - p), V (len - 1 - p)), List.mem_append.2 (.inr ?_), by rw [← e]; exact c'⟩
        rw [← e, if_pos k']; simp
      · obtain ⟨e', h1, h2⟩ := ih.2 ⟨j', by omega, b', c'⟩
        exact ⟨e', List.mem_append.2 (.inl h1), h2⟩
theorem keep_back {len : Nat} {K V : Nat → Int} {p : Nat} (hp : p < len) : keepB len K (len - 1 - p) = true ↔ ∀ j, j < (backPart len K V p).length → eK (backPart len K V p) j ≠ K (len - 1 - p) := by
  rw [keepB_iff]
  have hm := mem_backPart len K V p (by omega) (K (len - 1 - p))
  constructor
  · intro h j hj e
    obtain ⟨t, a, b, c⟩ := hm.1 ⟨_, List.getElem_mem hj, by unfold eK at e; rw [List.getD_eq_getElem?_getD, List.getElem?_eq_getElem hj] at e; exact e⟩
    exact h t (by omega) b c
  · intro h t a b c
    obtain ⟨e, he, h2⟩ := hm.2 ⟨t, by omega, b, c⟩
    obtain ⟨j, hj, rfl⟩ := List.getElem_of_mem he
    exact h j hj (by unfold eK; rw [List.getD_eq_getElem?_getD, List.getElem?_eq_getElem hj]; exact h2)

set_option maxRecDepth 100000 in
set_option maxHeartbeats 4000000 in
theorem walk_GRecent (w : World) (a0 : Int) (w0 : (Lit.int .i64 a0).wf = true) (a1 : Option Addr) (len cap : Nat) (z : Nat → Nat → Int) (hz : InStr [.i64, .i64] w a1 len z) :
    Calls Ydwm.prog 10 #[.int .i64 a0, .slice a1 len cap] w fun e w' => e = .returned (.bool true) ∧ Below w.heap.size w w' := by
  by_cases hbig : 1024 < len
  · have hbig' : (1024 : Int) < (len : Int) := by omega
    go_enter Ydwm.func10, Ydwm.ntmps10
    go_wp2
    go_ret
    exact ⟨rfl, Below.refl _ _⟩
  have hlen : (len : Int) ≤ 1024 := by omega
  obtain ⟨b, off, hE⟩ := hz.ents
  obtain ⟨h00, h01⟩ := wf_i64 w0
  generalize (fun i => z i 0) = K at *
  generalize (fun i => z i 1) = V at *
  have HE : Hid (InRow w b off a1 len 2 (ecell K V)) := hE
  obtain ⟨i0, hi0, hz0, hz1, hz2⟩ := info_parts infoEntry
  obtain ⟨R, hR⟩ : ∃ R, R = max a0 0 := ⟨_, rfl⟩
  have HRM : Hid (R = max a0 0) := hR
  have hR0 : 0 ≤ R := by omega
  clear hz w0 hE hR
  have hmk := make_entries0 len (by omega)
  go_enter Ydwm.func10, Ydwm.ntmps10
  go_wp2_with fail
  refine (New_held a0 w).mono ?_
  rintro e w1 ⟨rfl, H1, K1, S1⟩
  rw [← HRM.out] at H1
  go_wp2
  go_loopw [20] (fun i wr => ∃ k nb : Nat, ∃ c : Cs, k ≤ len ∧ i = .int .i64 k ∧ Held wr w.heap.size nb c k R (pplay R K V k) ∧ w.heap.size ≤ nb ∧ Keeps [] w wr) (fun i _ => len - (intOf i).toNat)
  case atStart => exact ⟨0, _, _, by omega, rfl, H1, Nat.le_refl _, K1⟩
  case round =>
    obtain ⟨k, nb, c, hk, rfl, HC, hnb, hK⟩ := hrel
    clear H1 K1
    by_cases hlt : k < len
    · have hlt' : (k : Int) < (len : Int) := by omega
      have E1 := HE.out.keeps hK (by simp)
      obtain rfl := E1.addr (by omega)
      have hblt := E1.lt (by omega)
      obtain ⟨e0, e1⟩ := E1.ents k hlt
      have hsz := hK.size
      have hcl := HC.lt
      have hcn := HC.nlt
      have HI : Hid (Held wr w.heap.size nb c k R (pplay R K V k) ∧ Keeps [] w wr) := ⟨HC, hK⟩
      clear HC hK E1
      go_wp2_with fail
      refine (Put_held (K k) (V k) (HI.out.1.alloc _) (by omega)).mono ?_
      rintro e w3 ⟨rfl, nb2, H2, hb2, K2⟩
      have RN : Hid (Held w3 w.heap.size nb2 (c.put (K k) (V k)) (k + 1) R (pplay R K V (k + 1)) ∧ w.heap.size ≤ nb2 ∧ Keeps [] w w3) := ⟨H2, by simp at hb2; omega, (HI.out.2.alloc _).trans K2 (by simp; omega)⟩
      clear H2 hb2 K2
      go_wp2
      go_roundw
      case rel => exact ⟨k + 1, nb2, c.put (K k) (V k), by omega, by go_num, RN.out.1, RN.out.2.1, RN.out.2.2⟩
      case measure => simp [intOf]; omega
    · have hlt' : ¬ (k : Int) < (len : Int) := by omega
      obtain rfl : k = len := by omega
      rw [pplay_eq R hR0, ← backPart_all] at HC
      have hsz := hK.size
      have hcl := HC.lt
      have hcn := HC.nlt
      have HI : Hid (Held wr w.heap.size nb c k R ((backPart k K V k).take R.toNat) ∧ Keeps [] w wr) := ⟨HC, hK⟩
      clear HC hK
      go_wp2
      generalize hw2 : wr = w2 at *
      clear hw2
      go_loopw [8, 9] (fun v i wq => ∃ p bk ck : Nat, ∃ B : List (Int × Int), p ≤ k ∧ i = .int .i64 ((k : Int) - 1 - p) ∧ B = backPart k K V p ∧ v = .slice (some ⟨bk, 0, none⟩) B.length ck ∧ RowAt wq bk 28 2 B.length ck (ecell (eK B) (eV B)) ∧ w2.heap.size ≤ bk ∧ Keeps [] w2 wq ∧ (B.length : Int) ≤ R) (fun _ i _ => (intOf i + 1).toNat)
      case atStart => exact ⟨0, w2.heap.size, k, [], by omega, by simp, rfl, rfl, RowAt.made0 w2 28 2 k _ (by unfold maxLen; omega), Nat.le_refl _, (Keeps.refl _ _).alloc _, by simpa using hR0⟩
      case round =>
        obtain ⟨p, bk, ck, B, hp, rfl, hB, rfl, hRow, hbk, hK2, hBR⟩ := hrel
        have hs2 := hK2.size
        have hBl : B.length ≤ p := by rw [hB]; exact backPart_le k K V p
        have hRA := HRM.out
        by_cases hgo : p < k ∧ (B.length : Int) < a0
        · obtain ⟨hpk, hBa⟩ := hgo
          obtain ⟨q, hq⟩ : ∃ q : Nat, q = k - 1 - p := ⟨_, rfl⟩
          have hqi : (k : Int) - 1 - p = (q : Int) := by omega
          have hqk : q < k := by omega
          have hqk' : (q : Int) < (k : Int) := by omega
          rw [hqi]
          have HJ : Hid (q = k - 1 - p ∧ B = backPart k K V p ∧ RowAt wr bk 28 2 B.length ck (ecell (eK B) (eV B)) ∧ Keeps [] w2 wr ∧ R = max a0 0 ∧ (B.length : Int) ≤ R) := ⟨hq, hB, hRow, hK2, hRA, hBR⟩
          have hBi : (B.length : Int) ≤ 1024 := by omega
          clear hq hB hRow hK2 hqi hRA hBR
          go_wp2
          generalize hw3 : wr = w3 at *
          clear hw3
          go_loopw [10, 49] (fun kn j wq => ∃ (m : Nat) (bb : Bool), m ≤ B.length ∧ j = .int .i64 m ∧ kn = .bool bb ∧ (bb = true ↔ ∃ t, t < m ∧ eK B t = K q) ∧ Keeps [] w3 wq) (fun _ j _ => B.length - (intOf j).toNat)
          case atStart => exact ⟨0, false, by omega, rfl, rfl, ⟨fun h => absurd h (by simp), fun ⟨t, h, _⟩ => absurd h (by omega)⟩, Keeps.refl _ _⟩
          case round =>
            obtain ⟨m, bb, hm, rfl, rfl, hbb, hK3⟩ := hrel
            have hs3 := hK3.size
            have E2 := ((HE.out.keeps HI.out.2 (by simp)).keeps HJ.out.2.2.2.1 (by simp)).keeps hK3 (by simp)
            obtain rfl := E2.addr (by omega)
            obtain ⟨f0, f1⟩ := E2.ents q hqk
            have hfl := E2.lt (by omega)
            by_cases hml : m < B.length
            · have hml' : (m : Int) < (B.length : Int) := by omega
              obtain ⟨g0, g1⟩ := (HJ.out.2.2.1.keeps hK3 (by simp)).ents m hml
              have hbkl : bk < wr.heap.size := by have := HJ.out.2.2.1.lt; omega
              have HB : Hid ((bb = true ↔ ∃ t, t < m ∧ eK B t = K q) ∧ Keeps [] w3 wr) := ⟨hbb, hK3⟩
              clear hbb hK3 E2
              by_cases heq : eK B m = K q
              · have HQ : Hid (eK B m = K q) := heq
                rw [heq] at g0
                clear heq
                go_wp2
                go_quiet (fail)
                go_wp2
                go_roundw
                case rel => exact ⟨m + 1, true, by omega, by go_num, rfl, ⟨fun _ => ⟨m, by omega, HQ.out⟩, fun _ => rfl⟩, (HB.out.2.alloc _).drewN _⟩
                case measure => simp [intOf]; omega
              · have HQ : Hid (¬ eK B m = K q) := heq
                have hb : (eK B m == K q) = false := beq_eq_false_iff_ne.2 heq
                clear heq
                go_wp2
                go_quiet (fail)
                go_wp2
                go_roundw
                case rel =>
                  refine ⟨m + 1, bb, by omega, by go_num, rfl, ⟨fun h => ?_, fun ⟨t, h1, h2⟩ => ?_⟩, (HB.out.2.alloc _).drewN _⟩
                  · obtain ⟨t, h1, h2⟩ := HB.out.1.1 h; exact ⟨t, by omega, h2⟩
                  · by_cases e : t = m
                    · subst e; exact absurd h2 HQ.out
                    · exact HB.out.1.2 ⟨t, by omega, h2⟩
                case measure => simp [intOf]; omega
            · have hml' : ¬ (m : Int) < (B.length : Int) := by omega
              obtain rfl : m = B.length := by omega
              have hkb := keep_back (K := K) (V := V) hpk
              have hqe := HJ.out.1
              have hBe := HJ.out.2.1
              rw [← hqe, ← hBe] at hkb
              cases bb with
              | true =>
                have hno : keepB k K q = false := by
                  rw [Bool.eq_false_iff]; intro h
                  obtain ⟨t, h1, h2⟩ := hbb.1 rfl
                  exact hkb.1 h t h1 h2
                have HQ : Hid (keepB k K q = false ∧ Keeps [] w3 wr) := ⟨hno, hK3⟩
                clear hno hbb hkb hK3 E2 hqe hBe
                go_wp2
                go_roundw
                case rel =>
                  have hqe := HJ.out.1
                  refine ⟨p + 1, bk, ck, B, by omega, ?_, ?_, rfl, HJ.out.2.2.1.keeps HQ.out.2 (by simp), hbk, HJ.out.2.2.2.1.trans HQ.out.2 (by simp), HJ.out.2.2.2.2.2⟩
                  · rw [show ((k : Int) - 1 - ((p + 1 : Nat) : Int)) = (q : Int) - 1 by omega]
                  · show B = backPart k K V p ++ _
                    rw [← hqe, HQ.out.1, ← HJ.out.2.1]; simp
                case measure => (try simp [intOf]); (try omega)
              | false =>
                have hyes : keepB k K q = true := hkb.2 fun j hj e => absurd (hbb.2 ⟨j, hj, e⟩) (by simp)
                have HQ : Hid (keepB k K q = true ∧ Keeps [] w3 wr) := ⟨hyes, hK3⟩
                clear hyes hbb hkb hK3 E2 hqe hBe
                go_wp2_with (at_builtin; refine wp_append1 _ rfl (.tmp 64) (.tmp 69) 37 rfl 28 i0 _ 2 16 Ydwm.underlying37 hi0 hz0 hz1 hz2 rfl (by omega) (.slice (some ⟨bk, 0, none⟩) B.length ck) B.length (ecell (eK B) (eV B)) rfl ?hS wr.heap.size rfl #[.int .i64 (K q), .int .i64 (V q)] 28 ?hB rfl ?h1 (by omega) (by omega) ?_)
                case hS => exact ((HJ.out.2.2.1.keeps HQ.out.2 (by simp)).alloc _).sliceAt
                case hB => first | exact heap_alloc_new _ _ | exact (Array.getElem?_eq_some_iff.1 (heap_alloc_new _ _)).2
                case h1 => first | exact ⟨rfl, rfl⟩ | (simp; exact ⟨rfl, rfl⟩)
                intro b' cap' w5 hr2 hk2 hbb2
                have hr3 := hr2.snocE
                have hk3 : Keeps [] w2 w5 := ((HJ.out.2.2.2.1.trans HQ.out.2 (by simp)).alloc _).trans hk2 (fun x hx => .inr (by simp [Value.ownBlock] at hx; omega))
                have hb3 : w2.heap.size ≤ b' := by
                  rcases hbb2 with h | h
                  · simp [Value.ownBlock] at h; omega
                  · (try simp at h); omega
                have HR : Hid (RowAt w5 b' 28 2 (B ++ [(K q, V q)]).length cap' (ecell (eK (B ++ [(K q, V q)])) (eV (B ++ [(K q, V q)]))) ∧ Keeps [] w2 w5) := ⟨hr3, hk3⟩
                clear hr2 hk2 hbb2 hr3 hk3 f0 f1
                go_wp2
                go_roundw
                case rel =>
                  have hqe := HJ.out.1
                  refine ⟨p + 1, b', cap', B ++ [(K q, V q)], by omega, ?_, ?_, by simp, HR.out.1, hb3, HR.out.2, ?_⟩
                  · rw [show ((k : Int) - 1 - ((p + 1 : Nat) : Int)) = (q : Int) - 1 by omega]
                  · show _ = backPart k K V p ++ _
                    rw [← hqe, HQ.out.1, ← HJ.out.2.1]; simp
                  · have := HJ.out.2.2.2.2.1; rw [List.length_append]; simp; omega
                case measure => (try simp [intOf]); (try omega)
        · have hMB : (backPart k K V k).take R.toNat = B := by
            by_cases e : p = k
            · rw [show backPart k K V k = B by rw [hB, e]]
              exact List.take_of_length_le (by omega)
            · obtain ⟨t, ht⟩ := backPart_pre k K V p k hp
              have hBa : ¬ (B.length : Int) < a0 := fun h => hgo ⟨by omega, h⟩
              rw [ht, ← hB, List.take_append_of_le_length (by omega), List.take_of_length_le (by omega)]
          have H3 := HI.out.1.keeps hK2 (by simp) (by simp)
          rw [hMB] at H3
          have ORD := Order_held H3 (by omega)
          have HK : Hid (RowAt wr bk 28 2 B.length ck (ecell (eK B) (eV B)) ∧ Keeps [] w wr) := ⟨hRow, HI.out.2.trans hK2 (by simp)⟩
          have HG : Hid (¬ (p < k ∧ (B.length : Int) < a0)) := hgo
          clear H3 hMB hRow hK2 hB hRA hBR hgo
          by_cases hpk : p < k
          · obtain ⟨q, hqi⟩ : ∃ q : Nat, (k : Int) - 1 - p = (q : Int) := ⟨k - 1 - p, by omega⟩
            have hBa : ¬ (B.length : Int) < a0 := fun h => HG.out ⟨hpk, h⟩
            rw [hqi]
            clear hqi
            go_wp2_with fail
            refine ORD.mono ?_
            rintro e w6 ⟨b6, ec6, rfl, R6, hb6, K6⟩
            clear ORD
            have GE := geq_at w6 b6 0 B.length ec6 bk 0 B.length ck _ _ (eK B) (eV B) (eK B) (eV B) R6.inRow (HK.out.1.keeps K6 (by simp)).inRow (by omega)
            go_wp2_with fail
            refine GE.mono ?_
            rintro e w8 ⟨bb, rfl, hbb, K8⟩
            obtain rfl : bb = true := hbb.2 ⟨rfl, fun _ _ => ⟨rfl, rfl⟩⟩
            go_wp2
            go_ret
            exact ⟨rfl, ((HK.out.2.trans K6 (by simp)).trans K8 (by simp)).below (Nat.le_refl _) (by simp)⟩
          · have hpi : (k : Int) - 1 - p = -1 := by omega
            rw [hpi]
            clear hpi
            go_wp2_with fail
            refine ORD.mono ?_
            rintro e w6 ⟨b6, ec6, rfl, R6, hb6, K6⟩
            clear ORD
            have GE := geq_at w6 b6 0 B.length ec6 bk 0 B.length ck _ _ (eK B) (eV B) (eK B) (eV B) R6.inRow (HK.out.1.keeps K6 (by simp)).inRow (by omega)
            go_wp2_with fail
            refine GE.mono ?_
            rintro e w8 ⟨bb, rfl, hbb, K8⟩
            obtain rfl : bb = true := hbb.2 ⟨rfl, fun _ _ => ⟨rfl, rfl⟩⟩
            go_wp2
            go_ret
            exact ⟨rfl, ((HK.out.2.trans K6 (by simp)).trans K8 (by simp)).below (Nat.le_refl _) (by simp)⟩
end Go.Proofs.Ymbrdw
