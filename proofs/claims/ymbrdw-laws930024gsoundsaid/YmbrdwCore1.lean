/- The walks of New, pushFront, unlink: each computes a plain function on 'Cs'. -/
import Derived.Test.YmbrdwBase
import Derived.BigRegion
namespace Go.Proofs.Ymbrdw
open Go.RowKit

theorem infoNode : (Ydwm.prog.info? 30).map (fun i => (i.zero, i.size, i.bytes)) = some (some (.agg #[.int .i64 0, .int .i64 0, .int .i64 0, .int .i64 0]), 4, 32) := by kernel_rfl
theorem infoEntry : (Ydwm.prog.info? 28).map (fun i => (i.zero, i.size, i.bytes)) = some (some (.agg #[.int .i64 0, .int .i64 0]), 2, 16) := by kernel_rfl
theorem infoInt : (Ydwm.prog.info? 3).map (fun i => (i.zero, i.size, i.bytes)) = some (some (.int .i64 0), 1, 8) := by kernel_rfl

/-- make([]node, n) -/
theorem make_nodes (n : Nat) (hn : n ≤ 1000000) (w : World) : (Instr.makeSlice 31 (.int .i64 (n : Int)) (.int .i64 (n : Int))).run Ydwm.prog w = .ok (.slice (some ⟨w.heap.size, 0, none⟩) n n) (w.alloc (.cells (madeCells #[.int .i64 0, .int .i64 0, .int .i64 0, .int .i64 0] (n * 4)) 30)) := by
  obtain ⟨i, hi, hz, hs, hb⟩ := info_parts infoNode
  have := run_make (P := Ydwm.prog) w 31 30 i _ Ydwm.underlying31 hi hz .i64 .i64 n n (by omega) (Int.le_refl _) (by rw [hb]; omega) (by omega)
  rw [hs] at this
  simpa [Value.cells] using this
theorem make_entries (n : Nat) (hn : n ≤ 1000000) (w : World) : (Instr.makeSlice 37 (.int .i64 (n : Int)) (.int .i64 (n : Int))).run Ydwm.prog w = .ok (.slice (some ⟨w.heap.size, 0, none⟩) n n) (w.alloc (.cells (madeCells #[.int .i64 0, .int .i64 0] (n * 2)) 28)) := by
  obtain ⟨i, hi, hz, hs, hb⟩ := info_parts infoEntry
  have := run_make (P := Ydwm.prog) w 37 28 i _ Ydwm.underlying37 hi hz .i64 .i64 n n (by omega) (Int.le_refl _) (by rw [hb]; omega) (by omega)
  rw [hs] at this
  simpa [Value.cells] using this
/-- make([]Entry, 0, n) -/
theorem make_entries0 (n : Nat) (hn : n ≤ 1000000) (w : World) : (Instr.makeSlice 37 (.int .i64 0) (.int .i64 (n : Int))).run Ydwm.prog w = .ok (.slice (some ⟨w.heap.size, 0, none⟩) 0 n) (w.alloc (.cells (madeCells #[.int .i64 0, .int .i64 0] (n * 2)) 28)) := by
  obtain ⟨i, hi, hz, hs, hb⟩ := info_parts infoEntry
  have := run_make (P := Ydwm.prog) w 37 28 i _ Ydwm.underlying37 hi hz .i64 .i64 0 n (by omega) (by omega) (by rw [hb]; omega) (by omega)
  rw [hs] at this
  simpa [Value.cells] using this
theorem make_ints (n : Nat) (hn : n ≤ 1000000) (w : World) : (Instr.makeSlice 35 (.int .i64 (n : Int)) (.int .i64 (n : Int))).run Ydwm.prog w = .ok (.slice (some ⟨w.heap.size, 0, none⟩) n n) (w.alloc (.cells (madeCells #[.int .i64 0] (n * 1)) 3)) := by
  obtain ⟨i, hi, hz, hs, hb⟩ := info_parts infoInt
  have := run_make (P := Ydwm.prog) w 35 3 i _ Ydwm.underlying35 hi hz .i64 .i64 n n (by omega) (Int.le_refl _) (by rw [hb]; omega) (by omega)
  rw [hs] at this
  simpa [Value.cells] using this
theorem make_ints0 (n : Nat) (hn : n ≤ 1000000) (w : World) : (Instr.makeSlice 35 (.int .i64 0) (.int .i64 (n : Int))).run Ydwm.prog w = .ok (.slice (some ⟨w.heap.size, 0, none⟩) 0 n) (w.alloc (.cells (madeCells #[.int .i64 0] (n * 1)) 3)) := by
  obtain ⟨i, hi, hz, hs, hb⟩ := info_parts infoInt
  have := run_make (P := Ydwm.prog) w 35 3 i _ Ydwm.underlying35 hi hz .i64 .i64 0 n (by omega) (by omega) (by rw [hb]; omega) (by omega)
  rw [hs] at this
  simpa [Value.cells] using this

theorem New_any (n : Int) (w : World) :
   Calls Ydwm.prog 16 #[.int .i64 n] w fun e w' => e = .returned (.pointer (some ⟨w.heap.size, 0, none⟩)) ∧ w' = w.alloc (.cells #[.slice none 0 0, .int .i64 (-1), .int .i64 (-1), .int .i64 (-1), .int .i64 0, .int .i64 (max n 0)] 33) := by
  by_cases h : n < 0
  · have : max n 0 = 0 := by omega
    rw [this]
    go_enter Ydwm.func16, Ydwm.ntmps16
    go_wp2
    go_ret
    exact ⟨rfl, rfl⟩
  · have : max n 0 = n := by omega
    rw [this]
    go_enter Ydwm.func16, Ydwm.ntmps16
    go_wp2
    go_ret
    exact ⟨rfl, rfl⟩

/-- the empty cache -/
def Cs.new (n : Int) : Cs := ⟨0, fun _ => 0, fun _ => 0, fun _ => 0, fun _ => 0, -1, -1, -1, 0, max n 0⟩

theorem New_at (n : Int) (w : World) :
   Calls Ydwm.prog 16 #[.int .i64 n] w fun e w' => e = .returned (.pointer (some ⟨w.heap.size, 0, none⟩)) ∧ CacheAt w' w.heap.size w.heap.size (Cs.new n) ∧ Keeps [] w w' ∧ w'.heap.size = w.heap.size + 1 :=
  (New_any n w).mono fun e w' ⟨he, hw⟩ => by
    subst hw
    exact ⟨he, CacheAt.boxedNil w _ _ _ _ _ _ _ _ _, (Keeps.refl _ _).alloc _, by simp⟩

def Cs.pushFront (c : Cs) (i : Nat) : Cs :=
  if c.head = -1 then { c with prev := upd c.prev i (-1), next := upd c.next i c.head, tail := i, head := i, size := wrap64 (c.size + 1) }
  else { c with prev := upd (upd c.prev i (-1)) c.head.toNat i, next := upd c.next i c.head, head := i, size := wrap64 (c.size + 1) }

set_option maxHeartbeats 1000000 in
theorem pushFront_at (cb nb i : Nat) (c : Cs) (w : World) (H : CacheAt w cb nb c) (hi : i < c.n) (hh : c.head = -1 ∨ ∃ h : Nat, c.head = h ∧ h < c.n) :
    Calls Ydwm.prog 19 #[.pointer (some ⟨cb, 0, none⟩), .int .i64 i] w fun e w' => e = .returned (.tuple #[]) ∧ CacheAt w' cb nb (c.pushFront i) ∧ Keeps [cb, nb] w w' ∧ w'.heap.size = w.heap.size := by
  have hn : 0 < c.n := by omega
  obtain ⟨hne, ncap, c0, r⟩ := H.row hn
  obtain ⟨_, _, d2, d3, hg⟩ := r.nodes
  have c1 := H.c1
  have c2 := H.c2
  have c4 := H.c4
  have hf := H.fr
  have hi' : (i : Int) < (c.n : Int) := by omega
  have e2 := d2 i hi
  have e3 := d3 i hi
  rcases hh with hh | ⟨h, hh, hlt⟩
  · have fin : CacheAt (((((w.setCell ⟨nb, i * 4 + 2, none⟩ (.int .i64 (-1))).setCell ⟨nb, i * 4 + 3, none⟩ (.int .i64 (-1))).setCell ⟨cb, 2, none⟩ (.int .i64 i)).setCell ⟨cb, 1, none⟩ (.int .i64 i)).setCell ⟨cb, 4, none⟩ (.int .i64 (wrap64 (c.size + 1)))).drew cb nb (c.pushFront i) := by
      have := ((((((H.setPrev hn i (-1)).setNext hn i (-1)).setTail i).setHead i).setSize (wrap64 (c.size + 1)))).drew
      unfold Cs.pushFront
      rw [if_pos hh]; rw [hh]; exact this
    have kin : Keeps [cb, nb] w (((((w.setCell ⟨nb, i * 4 + 2, none⟩ (.int .i64 (-1))).setCell ⟨nb, i * 4 + 3, none⟩ (.int .i64 (-1))).setCell ⟨cb, 2, none⟩ (.int .i64 i)).setCell ⟨cb, 1, none⟩ (.int .i64 i)).setCell ⟨cb, 4, none⟩ (.int .i64 (wrap64 (c.size + 1)))).drew :=
      ((((((Keeps.refl _ w).setCell _ _ (by simp)).setCell _ _ (by simp)).setCell _ _ (by simp)).setCell _ _ (by simp)).setCell _ _ (by simp)).drew
    rw [hh] at c1
    clear hh H r
    have FIN : Hid (CacheAt (((((w.setCell ⟨nb, i * 4 + 2, none⟩ (.int .i64 (-1))).setCell ⟨nb, i * 4 + 3, none⟩ (.int .i64 (-1))).setCell ⟨cb, 2, none⟩ (.int .i64 i)).setCell ⟨cb, 1, none⟩ (.int .i64 i)).setCell ⟨cb, 4, none⟩ (.int .i64 (wrap64 (c.size + 1)))).drew cb nb (c.pushFront i)) := fin
    clear fin
    go_enter Ydwm.func19, Ydwm.ntmps19
    go_wp2
    go_region
    go_wp2
    go_end0
    exact ⟨rfl, FIN.out, kin, by simp⟩
  · have e4 := d2 h hlt
    have hlt' : (h : Int) < (c.n : Int) := by omega
    have hm : ((h : Int) == -1) = false := beq_eq_false_iff_ne.2 (by omega)
    obtain ⟨v4, e4'⟩ : ∃ v, (w.setCell ⟨nb, i * 4 + 2, none⟩ (.int .i64 (-1))).cell? ⟨nb, h * 4 + 2, none⟩ = some v := by
      by_cases e : h = i
      · subst e; exact ⟨_, World.cell?_setCell_same _ _ _ e2⟩
      · exact ⟨_, by rw [World.cell?_setCell_other _ _ _ _ (addr_ne_off (by omega))]; exact e4⟩
    have fin : CacheAt (((((w.setCell ⟨nb, i * 4 + 2, none⟩ (.int .i64 (-1))).setCell ⟨nb, i * 4 + 3, none⟩ (.int .i64 h)).setCell ⟨nb, h * 4 + 2, none⟩ (.int .i64 i)).setCell ⟨cb, 1, none⟩ (.int .i64 i)).setCell ⟨cb, 4, none⟩ (.int .i64 (wrap64 (c.size + 1)))).drew.drew cb nb (c.pushFront i) := by
      have := (((((((H.setPrev hn i (-1)).setNext hn i h)).setPrev hn h i)).setHead i).setSize (wrap64 (c.size + 1))).drew.drew
      unfold Cs.pushFront
      rw [if_neg (by omega), hh]; exact this
    have kin : Keeps [cb, nb] w (((((w.setCell ⟨nb, i * 4 + 2, none⟩ (.int .i64 (-1))).setCell ⟨nb, i * 4 + 3, none⟩ (.int .i64 h)).setCell ⟨nb, h * 4 + 2, none⟩ (.int .i64 i)).setCell ⟨cb, 1, none⟩ (.int .i64 i)).setCell ⟨cb, 4, none⟩ (.int .i64 (wrap64 (c.size + 1)))).drew.drew :=
      ((((((Keeps.refl _ w).setCell _ _ (by simp)).setCell _ _ (by simp)).setCell _ _ (by simp)).setCell _ _ (by simp)).setCell _ _ (by simp)).drew.drew
    rw [hh] at c1
    clear hh H r e4
    have FIN : Hid (CacheAt (((((w.setCell ⟨nb, i * 4 + 2, none⟩ (.int .i64 (-1))).setCell ⟨nb, i * 4 + 3, none⟩ (.int .i64 h)).setCell ⟨nb, h * 4 + 2, none⟩ (.int .i64 i)).setCell ⟨cb, 1, none⟩ (.int .i64 i)).setCell ⟨cb, 4, none⟩ (.int .i64 (wrap64 (c.size + 1)))).drew.drew cb nb (c.pushFront i)) := fin
    clear fin
    go_enter Ydwm.func19, Ydwm.ntmps19
    go_wp2
    go_region
    go_wp2
    go_region
    go_wp2
    go_end0
    exact ⟨rfl, FIN.out, kin, by simp⟩

def Cs.unlink (c : Cs) (i : Nat) : Cs :=
  { c with head := if c.prev i = -1 then c.next i else c.head, next := if c.prev i = -1 then c.next else upd c.next (c.prev i).toNat (c.next i),
           tail := if c.next i = -1 then c.prev i else c.tail, prev := if c.next i = -1 then c.prev else upd c.prev (c.next i).toNat (c.prev i), size := wrap64 (c.size - 1) }

set_option maxHeartbeats 1000000 in
theorem unlink_at (cb nb i : Nat) (c : Cs) (w : World) (H : CacheAt w cb nb c) (hi : i < c.n) (hp : c.prev i = -1 ∨ ∃ p : Nat, c.prev i = p ∧ p < c.n) (hx : c.next i = -1 ∨ ∃ x : Nat, c.next i = x ∧ x < c.n) :
    Calls Ydwm.prog 21 #[.pointer (some ⟨cb, 0, none⟩), .int .i64 i] w fun e w' => e = .returned (.tuple #[]) ∧ CacheAt w' cb nb (c.unlink i) ∧ Keeps [cb, nb] w w' ∧ w'.heap.size = w.heap.size := by
  have hn : 0 < c.n := by omega
  obtain ⟨hne, ncap, c0, r⟩ := H.row hn
  obtain ⟨_, _, d2, d3, hg⟩ := r.nodes
  have c1 := H.c1
  have c2 := H.c2
  have c4 := H.c4
  have hf := H.fr
  have hi' : (i : Int) < (c.n : Int) := by omega
  have e2 := d2 i hi
  have e3 := d3 i hi
  have HH : Hid (CacheAt w cb nb c) := H
  clear H r
  rcases hp with hp | ⟨p, hp, hpl⟩
  · rcases hx with hx | ⟨x, hx, hxl⟩
    · have E : c.unlink i = { { { c with head := -1 } with tail := -1 } with size := wrap64 (c.size - 1) } := by unfold Cs.unlink; simp [hp, hx]
      rw [E]
      rw [hp] at e2; rw [hx] at e3
      clear hp hx E d2 d3
      go_enter Ydwm.func21, Ydwm.ntmps21
      go_wp2
      go_end0
      exact ⟨rfl, ((HH.out.setHead (-1)).setTail (-1)).setSize _, (((Keeps.refl _ w).setCell _ _ (by simp)).setCell _ _ (by simp)).setCell _ _ (by simp), by simp⟩
    · have E : c.unlink i = { { { c with head := x } with prev := upd c.prev x (-1) } with size := wrap64 (c.size - 1) } := by unfold Cs.unlink; simp [hp, hx]
      rw [E]
      have e4 := d2 x hxl
      have hxl' : (x : Int) < (c.n : Int) := by omega
      have hm : ((x : Int) == -1) = false := beq_eq_false_iff_ne.2 (by omega)
      rw [hp] at e2; rw [hx] at e3
      clear hp hx E d2 d3
      go_enter Ydwm.func21, Ydwm.ntmps21
      go_wp2
      go_end0
      exact ⟨rfl, ((HH.out.setHead x).setPrev hn x (-1)).setSize _, (((Keeps.refl _ w).setCell _ _ (by simp)).setCell _ _ (by simp)).setCell _ _ (by simp), by simp⟩
  · have e5 := d3 p hpl
    have hpl' : (p : Int) < (c.n : Int) := by omega
    have hm1 : ((p : Int) == -1) = false := beq_eq_false_iff_ne.2 (by omega)
    rcases hx with hx | ⟨x, hx, hxl⟩
    · have E : c.unlink i = { { { c with next := upd c.next p (-1) } with tail := p } with size := wrap64 (c.size - 1) } := by unfold Cs.unlink; simp [hp, hx]
      rw [E]
      rw [hp] at e2; rw [hx] at e3
      clear hp hx E d2 d3
      go_enter Ydwm.func21, Ydwm.ntmps21
      go_wp2
      go_end0
      exact ⟨rfl, ((HH.out.setNext hn p (-1)).setTail p).setSize _, (((Keeps.refl _ w).setCell _ _ (by simp)).setCell _ _ (by simp)).setCell _ _ (by simp), by simp⟩
    · have E : c.unlink i = { { { c with next := upd c.next p x } with prev := upd c.prev x p } with size := wrap64 (c.size - 1) } := by
        unfold Cs.unlink; rw [hp, hx, if_neg (by omega), if_neg (by omega), if_neg (by omega), if_neg (by omega)]; rfl
      rw [E]
      have e4 := d2 x hxl
      have hxl' : (x : Int) < (c.n : Int) := by omega
      have hm : ((x : Int) == -1) = false := beq_eq_false_iff_ne.2 (by omega)
      rw [hp] at e2; rw [hx] at e3
      clear hp hx E d2 d3
      go_enter Ydwm.func21, Ydwm.ntmps21
      go_wp2
      go_end0
      exact ⟨rfl, ((HH.out.setNext hn p x).setPrev hn x p).setSize _, (((Keeps.refl _ w).setCell _ _ (by simp)).setCell _ _ (by simp)).setCell _ _ (by simp), by simp⟩

/-- the slot in the list that holds the key, looked for from slot i on, in at most 'f' steps -/
def Cs.findFrom (c : Cs) (key : Int) : Nat → Int → Int
  | 0, _ => -1
  | f + 1, i => if c.key i.toNat = key then i else c.findFrom key f (c.next i.toNat)
def Cs.find (c : Cs) (key : Int) : Int := c.findFrom key c.size.toNat c.head

/-- the slot at place k of the list -/
def Cs.slot (c : Cs) : Nat → Int
  | 0 => c.head
  | k + 1 => c.next (c.slot k).toNat

theorem Cs.find_slot (c : Cs) (key : Int) (n k : Nat) (h : ∀ j, j < k → c.key (c.slot j).toNat ≠ key) (hk : k ≤ n) : c.findFrom key n c.head = c.findFrom key (n - k) (c.slot k) := by
  induction k with
  | zero => rfl
  | succ k ih =>
    rw [ih (fun j hj => h j (by omega)) (by omega)]
    obtain ⟨m, hm⟩ : ∃ m, n - k = m + 1 := ⟨n - k - 1, by omega⟩
    rw [hm, show n - (k + 1) = m by omega]
    show (if c.key (c.slot k).toNat = key then c.slot k else _) = _
    rw [if_neg (h k (by omega))]
    rfl

set_option maxHeartbeats 1000000 in
/-- find: every slot on the list's first 'size' places must be a slot -/
theorem find_at (cb nb : Nat) (key : Int) (c : Cs) (w : World) (H : CacheAt w cb nb c) (hs : 0 ≤ c.size) (hs' : c.size ≤ 1000000) (hl : ∀ k : Nat, (k : Int) < c.size → ∃ s : Nat, c.slot k = s ∧ s < c.n) :
    Calls Ydwm.prog 32 #[.pointer (some ⟨cb, 0, none⟩), .int .i64 key] w fun e w' => e = .returned (.int .i64 (c.find key)) ∧ w' = w := by
  have c1 := H.c1
  have c4 := H.c4
  have HH : Hid (CacheAt w cb nb c) := H
  have HL : Hid (∀ k : Nat, (k : Int) < c.size → ∃ s : Nat, c.slot k = s ∧ s < c.n) := hl
  clear H hl
  go_enter Ydwm.func32, Ydwm.ntmps32
  go_wp2
  go_loop [5, 6] (fun i n => ∃ k : Nat, (k : Int) ≤ c.size ∧ n = .int .i64 k ∧ i = .int .i64 (c.slot k) ∧ ∀ j, j < k → c.key (c.slot j).toNat ≠ key) (fun _ n => c.size.toNat - (intOf n).toNat)
  case atStart => exact ⟨0, by omega, rfl, rfl, fun j hj => absurd hj (by omega)⟩
  case round =>
    obtain ⟨k, hk, rfl, rfl, hno⟩ := hrel
    by_cases hlt : (k : Int) < c.size
    · obtain ⟨s, hs1, hs2⟩ := HL.out k hlt
      obtain ⟨hne, ncap, c0, r⟩ := HH.out.row (by omega)
      obtain ⟨d0, _, _, d3, _⟩ := r.nodes
      have e0 := d0 s hs2
      have e3 := d3 s hs2
      have hs2' : (s : Int) < (c.n : Int) := by omega
      have HS : Hid (c.slot k = s) := hs1
      have HN : Hid (∀ j, j < k → c.key (c.slot j).toNat ≠ key) := hno
      rw [hs1]
      clear hs1 hno r d0 d3
      by_cases hkey : c.key s = key
      · rw [hkey] at e0
        have HK : Hid (c.key s = key) := hkey
        clear hkey
        go_wp2
        go_ret
        refine ⟨?_, rfl⟩
        have e := c.find_slot key c.size.toNat k HN.out (by omega)
        unfold Cs.find
        rw [e]
        obtain ⟨m, hm⟩ : ∃ m, c.size.toNat - k = m + 1 := ⟨c.size.toNat - k - 1, by omega⟩
        rw [hm, HS.out]
        show _ = Ending.returned (.int .i64 (if c.key ((s : Int)).toNat = key then (s : Int) else _))
        rw [if_pos (by simpa using HK.out)]
        rfl
      · have hb : (c.key s == key) = false := beq_eq_false_iff_ne.2 hkey
        clear hkey
        go_wp2
        go_round
        case rel =>
          refine ⟨k + 1, by omega, by go_num, ?_, ?_⟩
          · show _ = Value.int .i64 (c.next (c.slot k).toNat)
            rw [HS.out]; rfl
          · intro j hj
            by_cases e : j = k
            · subst e; rw [HS.out]; simpa using beq_eq_false_iff_ne.1 hb
            · exact HN.out j (by omega)
        case measure => simp [intOf]; omega
    · go_wp2
      go_ret
      refine ⟨?_, rfl⟩
      have e := c.find_slot key c.size.toNat k hno (by omega)
      unfold Cs.find
      rw [e, show c.size.toNat - k = 0 by omega]
      rfl
end Go.Proofs.Ymbrdw
