/- The law LPuts: her walk. -/
import Derived.Test.YmbrdxLists
import Derived.Deep.RegionWith
namespace Go.Proofs.Ymbrdx
open Go.RowKit

/-- the last entries of their keys behind place p -/
def after (len : Nat) (K V : Nat → Int) (p k : Nat) : List (Int × Int) := ((List.range k).filter fun i => decide (p < i) && keepB len K i).map fun i => (K i, V i)
theorem after_yes {len : Nat} {K V : Nat → Int} {p k : Nat} (hp : p < k) (h : keepB len K k = true) : after len K V p (k + 1) = after len K V p k ++ [(K k, V k)] := by
  unfold after; rw [List.range_succ, List.filter_append]; simp [h, hp]
theorem after_no {len : Nat} {K V : Nat → Int} {p k : Nat} (h : keepB len K k = false) : after len K V p (k + 1) = after len K V p k := by
  unfold after; rw [List.range_succ, List.filter_append]; simp [h]
theorem after_nil {len : Nat} {K V : Nat → Int} {p : Nat} : after len K V p (p + 1) = [] := by
  unfold after
  rw [List.map_eq_nil_iff, List.filter_eq_nil_iff]
  intro i hi
  rw [List.mem_range] at hi
  simp; omega
theorem after_le (len : Nat) (K V : Nat → Int) (p k : Nat) : (after len K V p k).length ≤ k := by
  unfold after; rw [List.length_map]; exact Nat.le_trans (List.length_filter_le _ _) (by simp)
theorem after_split {len : Nat} {K V : Nat → Int} {p : Nat} (hp : keepB len K p = true) : ∀ d, lastPart len K V (p + 1 + d) = lastPart len K V p ++ (K p, V p) :: after len K V p (p + 1 + d)
  | 0 => by rw [Nat.add_zero, lastPart_yes hp, after_nil]
  | d + 1 => by
    rw [show p + 1 + (d + 1) = (p + 1 + d) + 1 by omega]
    cases h : keepB len K (p + 1 + d) with
    | true => rw [lastPart_yes h, after_yes (by omega) h, after_split hp d]; simp
    | false => rw [lastPart_no h, after_no h, after_split hp d]
theorem idx_app {key : Int} {e : Int × Int} : ∀ {X : List (Int × Int)} (Y : List (Int × Int)), (∀ x ∈ X, x.1 ≠ key) → e.1 = key → idx key (X ++ e :: Y) = some X.length
  | [], Y, _, h => by simp [idx, h]
  | x :: t, Y, hx, h => by
    show (if x.1 = key then some 0 else (idx key (t ++ e :: Y)).map (· + 1)) = _
    rw [if_neg (hx x (by simp)), idx_app Y (fun y hy => hx y (by simp [hy])) h]
    simp

/-- what is held for the key, of the puts alone -/
theorem want_some {len : Nat} {K V : Nat → Int} {key : Int} {p : Nat} (hp : p < len) (hk : K p = key) (hno : ∀ i, p < i → i < len → K i ≠ key) (c : Nat) :
    let M := (lastOcc len K V).reverse.take c
    (c ≤ (after len K V p len).length → idx key M = none) ∧ ((after len K V p len).length < c → idx key M = some (after len K V p len).length ∧ mpeek M key = V p) := by
  have hkp : keepB len K p = true := keepB_iff.2 fun t h1 h2 h3 => hno t h1 h2 (h3.trans hk)
  have hs : lastOcc len K V = lastPart len K V p ++ (K p, V p) :: after len K V p len := by
    have := after_split (V := V) hkp (len - (p + 1))
    rw [show p + 1 + (len - (p + 1)) = len by omega] at this
    exact this
  have hB : ∀ x ∈ (after len K V p len).reverse, x.1 ≠ key := by
    intro x hx
    rw [List.mem_reverse] at hx
    obtain ⟨i, hi, rfl⟩ := List.mem_map.1 hx
    rw [List.mem_filter, List.mem_range] at hi
    simp at hi
    exact hno i hi.2.1 hi.1
  have hr : (lastOcc len K V).reverse = (after len K V p len).reverse ++ (K p, V p) :: (lastPart len K V p).reverse := by rw [hs]; simp
  have hl : (after len K V p len).reverse.length = (after len K V p len).length := by simp
  dsimp only
  rw [hr, ← hl]
  generalize (after len K V p len).reverse = B at *
  generalize (lastPart len K V p).reverse = A at *
  constructor
  · intro hc
    rw [List.take_append_of_le_length hc]
    exact idx_none_iff.2 fun x hx => hB x (List.mem_of_mem_take hx)
  · intro hc
    obtain ⟨m, rfl⟩ : ∃ m, c = B.length + (m + 1) := ⟨c - B.length - 1, by omega⟩
    rw [List.take_append, show B.length + (m + 1) - B.length = m + 1 by omega, List.take_of_length_le (by omega), List.take_succ_cons]
    have hi := idx_app (e := (K p, V p)) (A.take m) hB hk
    refine ⟨hi, ?_⟩
    unfold mpeek
    rw [hi]
    simp [List.getD]
theorem want_none {len : Nat} {K V : Nat → Int} {key : Int} (hno : ∀ i, i < len → K i ≠ key) (c : Nat) : idx key ((lastOcc len K V).reverse.take c) = none := by
  refine idx_none_iff.2 fun x hx => ?_
  have hx := List.mem_of_mem_take hx
  rw [List.mem_reverse] at hx
  obtain ⟨i, hi, rfl⟩ := List.mem_map.1 hx
  rw [List.mem_filter, List.mem_range] at hi
  exact hno i hi.1

/-- the last place of the key so far -/
def LastAt (K : Nat → Int) (key : Int) (k : Nat) (l : Int) : Prop := (l = -1 ∧ ∀ i, i < k → K i ≠ key) ∨ ∃ p : Nat, l = p ∧ p < k ∧ K p = key ∧ ∀ i, p < i → i < k → K i ≠ key

set_option maxRecDepth 100000 in
set_option maxHeartbeats 4000000 in
theorem lwant_at (w : World) (cap : Int) (b off : Nat) (a : Option Addr) (len ecap : Nat) (K V : Nat → Int) (key : Int) (hE : InRow w b off a len 2 (ecell K V)) (hl : len ≤ 100000) :
    Calls Ydxm.prog 31 #[.int .i64 cap, .slice a len ecap, .int .i64 key] w fun e w' => e = .returned (.tuple #[.int .i64 (mpeek ((lastOcc len K V).reverse.take cap.toNat) key), .bool (idx key ((lastOcc len K V).reverse.take cap.toNat)).isSome]) ∧ Keeps [] w w' := by
  have hl' : (len : Int) ≤ 100000 := by omega
  have HE : Hid (InRow w b off a len 2 (ecell K V)) := hE
  clear hE
  go_enter Ydxm.func31, Ydxm.ntmps31
  go_wp2
  go_loopw [8, 9] (fun l i wr => ∃ k : Nat, ∃ li : Int, k ≤ len ∧ i = .int .i64 k ∧ l = .int .i64 li ∧ LastAt K key k li ∧ Keeps [] w wr) (fun _ i _ => len - (intOf i).toNat)
  case atStart => exact ⟨0, -1, by omega, rfl, rfl, .inl ⟨rfl, fun i h => absurd h (by omega)⟩, Keeps.refl _ _⟩
  case round =>
    obtain ⟨k, li, hk, rfl, rfl, hla, hK⟩ := hrel
    by_cases hlt : k < len
    · have hlt' : (k : Int) < (len : Int) := by omega
      have E1 := HE.out.keeps hK (by simp)
      obtain ⟨e0, _⟩ := E1.ents k hlt
      obtain rfl := E1.addr (by omega)
      have HI : Hid (LastAt K key k li ∧ Keeps [] w wr) := ⟨hla, hK⟩
      clear hla hK E1
      by_cases heq : K k = key
      · have HQ : Hid (K k = key) := heq
        rw [heq] at e0
        clear heq
        go_wp2
        go_roundw
        case rel => exact ⟨k + 1, k, by omega, by go_num, rfl, .inr ⟨k, rfl, by omega, HQ.out, fun i h1 h2 => absurd h1 (by omega)⟩, HI.out.2⟩
        case measure => simp [intOf]; omega
      · have HQ : Hid (¬ K k = key) := heq
        have hb : (K k == key) = false := beq_eq_false_iff_ne.2 heq
        clear heq
        go_wp2
        go_roundw
        case rel =>
          refine ⟨k + 1, li, by omega, by go_num, rfl, ?_, HI.out.2⟩
          rcases HI.out.1 with ⟨h1, h2⟩ | ⟨p, h1, h2, h3, h4⟩
          · refine .inl ⟨h1, fun i hi => ?_⟩
            by_cases e : i = k
            · rw [e]; exact HQ.out
            · exact h2 i (by omega)
          · refine .inr ⟨p, h1, by omega, h3, fun i hi hi2 => ?_⟩
            by_cases e : i = k
            · rw [e]; exact HQ.out
            · exact h4 i hi (by omega)
        case measure => simp [intOf]; omega
    · have hlt' : ¬ (k : Int) < (len : Int) := by omega
      obtain rfl : k = len := by omega
      rcases hla with ⟨rfl, hno⟩ | ⟨p, rfl, hp, hkp, hno⟩
      · have hn := want_none (V := V) hno cap.toNat
        have hm : mpeek ((lastOcc k K V).reverse.take cap.toNat) key = 0 := by unfold mpeek; rw [hn]
        have HM : Hid (mpeek ((lastOcc k K V).reverse.take cap.toNat) key = 0 ∧ idx key ((lastOcc k K V).reverse.take cap.toNat) = none) := ⟨hm, hn⟩
        clear hno hn hm
        go_wp2
        go_ret2
        exact ⟨by rw [HM.out.1, HM.out.2]; rfl, hK⟩
      · have hW := want_some (V := V) hp hkp hno cap.toNat
        dsimp only at hW
        have hp0 : ¬ (p : Int) < 0 := by omega
        have HW : Hid ((cap.toNat ≤ (after k K V p k).length → idx key ((lastOcc k K V).reverse.take cap.toNat) = none) ∧ ((after k K V p k).length < cap.toNat → idx key ((lastOcc k K V).reverse.take cap.toNat) = some (after k K V p k).length ∧ mpeek ((lastOcc k K V).reverse.take cap.toNat) key = V p)) := hW
        have HK0 : Hid (Keeps [] w wr) := hK
        clear hW hno hkp hK
        generalize wr = wo0 at *
        go_wp2
        go_loopw [10, 11] (fun dn i wr => ∃ t : Nat, p + 1 ≤ t ∧ t ≤ k ∧ i = .int .i64 t ∧ dn = .int .i64 ((after k K V p t).length : Int) ∧ Keeps [] w wr) (fun _ i _ => k - (intOf i).toNat)
        case atStart => exact ⟨p + 1, Nat.le_refl _, by omega, by go_num, by rw [after_nil]; rfl, HK0.out⟩
        case round =>
          obtain ⟨t, ht0, ht, rfl, rfl, hK⟩ := hrel
          have hal := after_le k K V p t
          by_cases htl : t < k
          · have htl' : (t : Int) < (k : Int) := by omega
            have HI : Hid (Keeps [] w wr) := hK
            clear hK
            obtain ⟨an, han⟩ : ∃ an : Nat, an = (after k K V p t).length := ⟨_, rfl⟩
            have HA : Hid (an = (after k K V p t).length) := han
            rw [← han] at hal ⊢
            have hal' : (an : Int) ≤ 100000 := by omega
            clear han
            generalize wr = wo1 at *
            go_wp2
            go_loopw [12, 13] (fun ag j wq => ∃ (m : Nat) (bb : Bool), t + 1 ≤ m ∧ m ≤ k ∧ j = .int .i64 m ∧ ag = .bool bb ∧ (bb = true ↔ ∃ s, t < s ∧ s < m ∧ K s = K t) ∧ Keeps [] wo1 wq) (fun _ j _ => k - (intOf j).toNat)
            case atStart => exact ⟨t + 1, false, Nat.le_refl _, by omega, by go_num, rfl, ⟨fun h => absurd h (by simp), fun ⟨s, h1, h2, _⟩ => absurd h2 (by omega)⟩, Keeps.refl _ _⟩
            case round =>
              obtain ⟨m, bb, hm1, hm2, rfl, rfl, hbb, hK2⟩ := hrel
              by_cases hml : m < k
              · have hml' : (m : Int) < (k : Int) := by omega
                have E1 := (HE.out.keeps HI.out (by simp)).keeps hK2 (by simp)
                obtain ⟨e0, _⟩ := E1.ents m hml
                obtain ⟨f0, _⟩ := E1.ents t htl
                obtain rfl := E1.addr (by omega)
                have HB : Hid ((bb = true ↔ ∃ s, t < s ∧ s < m ∧ K s = K t) ∧ Keeps [] wo1 wr) := ⟨hbb, hK2⟩
                clear hbb hK2 E1
                by_cases heq : K m = K t
                · rw [heq] at e0
                  have HQ : Hid (K m = K t) := heq
                  clear heq
                  go_wp2
                  go_quiet (fail)
                  go_wp2
                  go_roundw
                  case rel => exact ⟨m + 1, true, by omega, by omega, by go_num, rfl, ⟨fun _ => ⟨m, by omega, by omega, HQ.out⟩, fun _ => rfl⟩, HB.out.2.drewN _⟩
                  case measure => simp [intOf]; omega
                · have hb : (K m == K t) = false := beq_eq_false_iff_ne.2 heq
                  have HQ : Hid (¬ K m = K t) := heq
                  clear heq
                  go_wp2
                  go_quiet (fail)
                  go_wp2
                  go_roundw
                  case rel =>
                    refine ⟨m + 1, bb, by omega, by omega, by go_num, rfl, ⟨fun h => ?_, fun ⟨s, h1, h2, h3⟩ => ?_⟩, HB.out.2.drewN _⟩
                    · obtain ⟨s, h1, h2, h3⟩ := HB.out.1.1 h; exact ⟨s, h1, by omega, h3⟩
                    · by_cases e : s = m
                      · subst e; exact absurd h3 HQ.out
                      · exact HB.out.1.2 ⟨s, h1, by omega, h3⟩
                  case measure => simp [intOf]; omega
              · have hml' : ¬ (m : Int) < (k : Int) := by omega
                obtain rfl : m = k := by omega
                cases bb with
                | true =>
                  have hkb : keepB m K t = false := by
                    rw [Bool.eq_false_iff]; intro h
                    obtain ⟨s, h1, h2, h3⟩ := hbb.1 rfl
                    exact keepB_iff.1 h s h1 h2 h3
                  have HQ : Hid (keepB m K t = false ∧ Keeps [] wo1 wr) := ⟨hkb, hK2⟩
                  clear hkb hbb hK2
                  go_wp2
                  go_roundw
                  case rel => exact ⟨t + 1, by omega, by omega, by go_num, by rw [after_no HQ.out.1, HA.out], HI.out.trans HQ.out.2 (by simp)⟩
                  case measure => simp [intOf]; omega
                | false =>
                  have hkb : keepB m K t = true := keepB_iff.2 fun s h1 h2 h3 => absurd (hbb.2 ⟨s, h1, h2, h3⟩) (by simp)
                  have HQ : Hid (keepB m K t = true ∧ Keeps [] wo1 wr) := ⟨hkb, hK2⟩
                  clear hkb hbb hK2
                  go_wp2
                  go_roundw
                  case rel => exact ⟨t + 1, by omega, by omega, by go_num, by rw [after_yes (by omega) HQ.out.1, HA.out, List.length_append]; simp, HI.out.trans HQ.out.2 (by simp)⟩
                  case measure => simp [intOf]; omega
          · have htl' : ¬ (t : Int) < (k : Int) := by omega
            obtain rfl : t = k := by omega
            have E1 := HE.out.keeps hK (by simp)
            obtain ⟨_, e1⟩ := E1.ents p hp
            obtain rfl := E1.addr (by omega)
            have hp' : (p : Int) < (t : Int) := by omega
            obtain ⟨an, han⟩ : ∃ an : Nat, an = (after t K V p t).length := ⟨_, rfl⟩
            have HA : Hid (an = (after t K V p t).length) := han
            rw [← han]
            clear han
            by_cases hge : cap ≤ (an : Int)
            · have hn := HW.out.1 (by rw [← HA.out]; omega)
              have hm : mpeek ((lastOcc t K V).reverse.take cap.toNat) key = 0 := by unfold mpeek; rw [hn]
              have HM : Hid (mpeek ((lastOcc t K V).reverse.take cap.toNat) key = 0 ∧ idx key ((lastOcc t K V).reverse.take cap.toNat) = none) := ⟨hm, hn⟩
              clear hn hm
              go_wp2
              go_ret2
              exact ⟨by rw [HM.out.1, HM.out.2]; rfl, hK⟩
            · obtain ⟨hn, hm⟩ := HW.out.2 (by rw [← HA.out]; omega)
              have HM : Hid (mpeek ((lastOcc t K V).reverse.take cap.toNat) key = V p ∧ (idx key ((lastOcc t K V).reverse.take cap.toNat)).isSome = true) := ⟨hm, by rw [hn]; rfl⟩
              clear hn hm
              go_wp2
              go_ret2
              exact ⟨by rw [HM.out.1, HM.out.2]; rfl, hK⟩

set_option maxRecDepth 100000 in
set_option maxHeartbeats 4000000 in
theorem walk_LPuts (w : World) (a0 : Int) (_w0 : (Lit.int .i64 a0).wf = true) (a1 : Option Addr) (len cap : Nat) (z : Nat → Nat → Int) (hz : InStr [.i64, .i64] w a1 len z) (key : Int) (_w2 : (Lit.int .i64 key).wf = true) (pick : Int) (w3 : (Lit.int .u64 pick).wf = true) :
    Calls Ydxm.prog 12 #[.int .i64 a0, .slice a1 len cap, .int .i64 key, .int .u64 pick] w fun e w' => e = .returned (.bool true) ∧ Below w.heap.size w w' := by
  by_cases hbig : 1024 < len
  · have hbig' : (1024 : Int) < (len : Int) := by omega
    go_enter Ydxm.func12, Ydxm.ntmps12
    go_wp2
    go_ret
    exact ⟨rfl, Below.refl _ _⟩
  have hlen : (len : Int) ≤ 1024 := by omega
  obtain ⟨b, off, hE⟩ := hz.ents
  obtain ⟨h30, h31⟩ := wf_u64 w3
  generalize (fun i => z i 0) = K at *
  generalize (fun i => z i 1) = V at *
  have HE : Hid (InRow w b off a1 len 2 (ecell K V)) := hE
  clear hz _w0 _w2 w3 hE
  obtain ⟨room, hroom⟩ : ∃ room, room = max a0 0 := ⟨_, rfl⟩
  have hr0 : 0 ≤ room := by omega
  have HRM : Hid (room = max a0 0) := hroom
  clear hroom
  go_enter Ydxm.func12, Ydxm.ntmps12
  go_wp2_with fail
  refine (New_held a0 w).mono ?_
  rintro e w1 ⟨rfl, H1, K1, S1⟩
  rw [← HRM.out] at H1
  go_wp2
  go_loopw [10] (fun i wr => ∃ k nb : Nat, ∃ c : Cs, k ≤ len ∧ i = .int .i64 k ∧ Held wr w.heap.size nb c k room (pplay room K V k) ∧ w.heap.size ≤ nb ∧ Keeps [] w wr) (fun i _ => len - (intOf i).toNat)
  case atStart => exact ⟨0, _, _, by omega, rfl, H1, Nat.le_refl _, K1⟩
  case round =>
    obtain ⟨k, nb, c, hk, rfl, HC, hnb, hK⟩ := hrel
    clear H1 K1
    by_cases hlt : k < len
    · have hlt' : (k : Int) < (len : Int) := by omega
      have E1 := HE.out.keeps hK (by simp)
      obtain rfl := E1.addr (by omega)
      have hblt := E1.lt (by omega)
      obtain ⟨e0, e1⟩ := E1.ents k hlt
      have hsz := hK.size
      have hcl := HC.lt
      have hcn := HC.nlt
      have PUT := Put_held (K k) (V k) HC.drew (by omega)
      have PP : Hid (Calls Ydxm.prog 27 #[.pointer (some ⟨w.heap.size, 0, none⟩), .int .i64 (K k), .int .i64 (V k)] wr.drew fun e w' => e = .returned (.tuple #[.agg #[.int .i64 (mout room (pplay room K V k) (K k) (V k)).1, .int .i64 (mout room (pplay room K V k) (K k) (V k)).2], .bool (mok room (pplay room K V k) (K k))]) ∧
          ∃ nb', Held w' w.heap.size nb' (c.put (K k) (V k)) (k + 1) room (pplay room K V (k + 1)) ∧ (nb' = nb ∨ wr.drew.heap.size ≤ nb') ∧ Keeps [w.heap.size, nb] wr.drew w') := PUT
      have HI : Hid (Keeps [] w wr) := hK
      clear PUT HC hK E1
      go_wp2
      go_region_with (go_at_call 27; refine PP.out.mono ?_; rintro e w3 ⟨rfl, hpp⟩)
      all_goals
        obtain ⟨nb2, H2, hb2, K2⟩ := hpp
        have RN : Hid (Held w3 w.heap.size nb2 (c.put (K k) (V k)) (k + 1) room (pplay room K V (k + 1)) ∧ w.heap.size ≤ nb2 ∧ Keeps [] w w3) := ⟨H2, by simp at hb2; omega, HI.out.drew.trans K2 (by simp; omega)⟩
        clear H2 hb2 K2
        go_wp2
        go_roundw
        case rel => exact ⟨k + 1, nb2, c.put (K k) (V k), by omega, by go_num, RN.out.1, RN.out.2.1, RN.out.2.2⟩
        case measure => (try simp [intOf]); (try omega)
    · have hlt' : ¬ (k : Int) < (len : Int) := by omega
      obtain rfl : k = len := by omega
      rw [pplay_eq room hr0, show room.toNat = a0.toNat by have := HRM.out; omega] at HC
      have hsz := hK.size
      have hcl := HC.lt
      have hcn := HC.nlt
      have LW := fun (ky : Int) (w' : World) (hE : InRow w' b off a1 k 2 (ecell K V)) => lwant_at w' a0 b off a1 k cap K V ky hE (by omega)
      generalize (lastOcc k K V).reverse.take a0.toNat = M at *
      have E1 := HE.out.keeps hK (by simp)
      go_wp2_with fail
      refine (Peek_held key HC (by omega)).mono ?_
      rintro e w2 ⟨rfl, rfl⟩
      have L1 := LW key w2 E1
      go_wp2_with fail
      refine L1.mono ?_
      rintro e w3 ⟨rfl, K3⟩
      clear L1
      have H3 := HC.keeps K3 (by simp) (by simp)
      have E3 := E1.keeps K3 (by simp)
      have KA := hK.trans K3 (cs := []) (bs := []) (by simp)
      clear HC E1 hK K3
      by_cases h0 : k = 0
      · have h0' : ((k : Int) == 0) = true := by simpa using h0
        go_wp2
        go_ret
        exact ⟨rfl, KA.below (Nat.le_refl _) (by simp)⟩
      · have h0' : ((k : Int) == 0) = false := beq_eq_false_iff_ne.2 (by omega)
        have hkp : (0 : Int) < (k : Int) := by omega
        obtain ⟨q, hq⟩ : ∃ q : Nat, (q : Int) = pick % (k : Int) := ⟨(pick % (k : Int)).toNat, Int.toNat_of_nonneg (Int.emod_nonneg _ (by omega))⟩
        have hql : q < k := by have := Int.emod_lt_of_pos pick hkp; omega
        have hql' : (q : Int) < (k : Int) := by omega
        rw [eq_comm] at hq
        obtain ⟨e0, e1⟩ := E3.ents q hql
        have hbl := E3.lt (by omega)
        obtain rfl := E3.addr (by omega)
        clear h0
        generalize K q = ky at *
        have HI : Hid (Held w3 w.heap.size nb c k room M ∧ InRow w3 b off (some ⟨b, off, none⟩) k 2 (ecell K V) ∧ Keeps [] w w3) := ⟨H3, E3, KA⟩
        clear H3 E3 KA
        go_wp2_with fail
        refine (Peek_held ky HI.out.1 (by omega)).mono ?_
        rintro e w4 ⟨rfl, rfl⟩
        have L1 := LW ky w4 HI.out.2.1
        go_wp2_with fail
        refine L1.mono ?_
        rintro e w5 ⟨rfl, K5⟩
        clear L1 LW
        go_wp2
        go_ret
        exact ⟨rfl, (HI.out.2.2.trans K5 (cs := []) (bs := []) (by simp)).below (Nat.le_refl _) (by simp)⟩
end Go.Proofs.Ymbrdx
