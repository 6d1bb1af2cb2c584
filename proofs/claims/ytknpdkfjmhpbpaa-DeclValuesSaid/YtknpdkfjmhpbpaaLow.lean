/- The reference's Lower: what it answers of every text. -/
import Derived.Test.YtknpdkfjmhpbpaaRows
import Derived.Test.YtknpdkfjmhpbpaaBase
import Derived.Lib.ConvBytes
import Derived.Laws.IdiomStrings
import Derived.BigQuiet
import Derived.Deep.QuietTactic
namespace Go.Proofs.Ytknpdkfjmhpbpaa
open Go.RowKit Go.Maps Go.ChangeShapes Go.WideShapes Go.ChangeAt Go.WideMaps Go.WideElems

def lowB (c : UInt8) : UInt8 := if 65 ≤ c.toNat ∧ c.toNat ≤ 90 then UInt8.ofNat (c.toNat + 32) else c
def lowL (l : List UInt8) (k : Nat) : List UInt8 := (l.take k).map lowB ++ l.drop k
def lowS (s : ByteArray) : ByteArray := ⟨(s.data.toList.map lowB).toArray⟩

theorem lowL_len (l : List UInt8) (k : Nat) : (lowL l k).length = l.length := by unfold lowL; simp; omega
theorem lowL_at (l : List UInt8) (k : Nat) (hk : k < l.length) : (lowL l k)[k]? = l[k]? := by
  unfold lowL
  rw [List.getElem?_append_right (by simp; omega)]
  simp
  congr 1
  omega
theorem lowL_succ (l : List UInt8) (k : Nat) (hk : k < l.length) : lowL l (k + 1) = (lowL l k).set k (lowB l[k]) := by
  unfold lowL
  have h1 : ((l.take k).map lowB).length = k := by simp; omega
  rw [List.set_append_right _ _ (by omega), h1, Nat.sub_self, List.take_add_one, List.map_append, List.append_assoc]
  congr 1
  rw [List.getElem?_eq_getElem hk]
  rw [List.drop_eq_getElem_cons hk]
  rfl
theorem lowB_no {c : UInt8} (h : ¬ (65 ≤ c.toNat ∧ c.toNat ≤ 90)) : lowB c = c := by unfold lowB; rw [if_neg h]
theorem lowB_yes {c : UInt8} (h1 : 65 ≤ c.toNat) (h2 : c.toNat ≤ 90) : ((lowB c).toNat : Int) = (c.toNat : Int) + 32 := by
  unfold lowB
  rw [if_pos ⟨h1, h2⟩]
  simp
  omega

/-- Block b begins with these bytes. -/
def Byt (w : World) (b : Nat) (l : List UInt8) : Prop :=
  ∃ C : Array Value, w.heap[b]? = some (.cells C 5 (C.size, C.size + 1)) ∧ l.length ≤ C.size ∧ ∀ j (h : j < l.length), C[j]? = some (.int .u8 (l[j].toNat : Int))

theorem Byt.cell {w : World} {b : Nat} {l : List UInt8} (h : Byt w b l) (j : Nat) (hj : j < l.length) : w.cell? ⟨b, j, none⟩ = some (.int .u8 (l[j].toNat : Int)) := by
  obtain ⟨C, h1, _, h3⟩ := h
  rw [cellOf h1]
  exact h3 j hj
theorem Byt.frozen {w : World} {b : Nat} {l : List UInt8} (h : Byt w b l) (j : Nat) (hj : j < l.length) : w.frozen? ⟨b, j, none⟩ = false := by
  obtain ⟨C, h1, h2, _⟩ := h
  simp [World.frozen?, h1]
  omega
theorem Byt.lt {w : World} {b : Nat} {l : List UInt8} (h : Byt w b l) : b < w.heap.size := by
  obtain ⟨C, h1, _⟩ := h
  exact ltOf h1
theorem Byt.set {w : World} {b : Nat} {l : List UInt8} (h : Byt w b l) (k : Nat) (c : UInt8) : Byt (w.setCell ⟨b, k, none⟩ (.int .u8 (c.toNat : Int))) b (l.set k c) := by
  obtain ⟨C, h1, h2, h3⟩ := h
  refine ⟨C.setIfInBounds k (.int .u8 (c.toNat : Int)), by simpa using heapSet h1 k _, by simpa using h2, fun j hj => ?_⟩
  have hj' : j < l.length := by simpa using hj
  rw [Array.getElem?_setIfInBounds, List.getElem_set]
  by_cases e : k = j
  · subst e
    rw [if_pos rfl, if_pos (by omega), if_pos rfl]
  · rw [if_neg e, if_neg e]
    exact h3 j hj'
theorem Byt.new (w : World) (s : ByteArray) : Byt (Lib.bytesWorld w 5 s) w.heap.size s.data.toList := by
  refine ⟨Lib.bytesCells w 5 s, Lib.bytesWorld_at_new w 5 s, by simp [Lib.bytesCells], fun j hj => ?_⟩
  have hj' : j < s.data.size := by simpa using hj
  have hj2 : j < s.size := hj'
  simp [Lib.bytesCells, Array.getElem?_append, hj2]


theorem Fr.bytes (w : World) (e : TypeId) (s : ByteArray) : Fr (fun _ => False) w (Lib.bytesWorld w e s) :=
  ⟨rfl, rfl, rfl, by rw [Lib.bytesWorld_size]; omega, fun k hk _ => Lib.bytesWorld_at_old w e s k hk⟩

/-- Between two rounds. -/
structure LW (w wr : World) (s : ByteArray) (k : Nat) : Prop where
  byt : Byt wr w.heap.size (lowL s.data.toList k)
  fr : Fr (fun _ => False) w wr

theorem LW.step {w wr : World} {s : ByteArray} {k : Nat} (h : LW w wr s k) (hk : k < s.data.toList.length) {v : Int} (hv : ((lowB s.data.toList[k]).toNat : Int) = v) : LW w (wr.setCell ⟨w.heap.size, k, none⟩ (.int .u8 v)) s (k + 1) := by
  subst hv
  refine ⟨?_, h.fr.setCell (p := ⟨w.heap.size, k, none⟩) (.inr (Nat.le_refl _)) _⟩
  rw [lowL_succ _ _ hk]
  exact h.byt.set k _
theorem LW.stay {w wr : World} {s : ByteArray} {k : Nat} (h : LW w wr s k) (hk : k < s.data.toList.length) (hn : lowB s.data.toList[k] = s.data.toList[k]) : LW w wr s (k + 1) := by
  refine ⟨?_, h.fr⟩
  rw [lowL_succ _ _ hk, hn]
  have : (lowL s.data.toList k).set k s.data.toList[k] = lowL s.data.toList k := by
    apply List.ext_getElem?
    intro i
    rw [List.getElem?_set]
    by_cases e : k = i
    · subst e
      rw [if_pos rfl, if_pos (by rw [lowL_len]; exact hk), lowL_at _ _ hk, List.getElem?_eq_getElem hk]
    · rw [if_neg e]
  rw [this]
  exact h.byt
theorem LW.drewN {w wr : World} {s : ByteArray} {k : Nat} (h : LW w wr s k) (m : Nat) : LW w (wr.drewN m) s k := by
  obtain ⟨⟨C, h1, h2, h3⟩, f⟩ := h
  exact ⟨⟨C, h1, h2, h3⟩, f.os, f.tape, f.output, f.size, f.block⟩

set_option maxHeartbeats 2000000 in
set_option maxRecDepth 100000 in
theorem RLower_any (s : ByteArray) (w : World) (hs : s.size ≤ maxLen) :
    Calls Try.prog 30 #[.string s] w fun e w' => e = .returned (.string (lowS s)) ∧ Fr (fun _ => False) w w' := by
  unfold maxLen at hs
  have kc := Lib.run_convert_string_bytes (P := Try.prog) w 9 29 5 s Try.underlying9 Try.underlying29 Try.underlying5
  have L0 := Lib.hid (show LW w (Lib.bytesWorld w 5 s) s 0 from ⟨by simpa [lowL] using Byt.new w s, Fr.bytes w 5 s⟩)
  have hsz : s.data.toList.length = s.size := by rw [Array.length_toList]; rfl
  have HSZ := Lib.hid hsz
  clear hsz
  obtain ⟨cap, hcap⟩ : ∃ cap, cap = grownCap w s.size 0 5 := ⟨_, rfl⟩
  rw [← hcap] at kc
  clear hcap
  generalize Lib.bytesWorld w 5 s = w1 at *
  go_enter Try.func30, Try.ntmps30
  go_wp2_with fail
  go_loopw [4] (fun i wr => ∃ k : Nat, k ≤ s.size ∧ i = .int .i64 k ∧ Hid (LW w wr s k)) (fun i _ => s.size - (intOf i).toNat)
  case atStart => exact ⟨0, by omega, rfl, L0.out⟩
  case round =>
    obtain ⟨k, hk, rfl, hL⟩ := hrel
    clear L0 kc
    by_cases hlt : k < s.size
    · have hkl : k < s.data.toList.length := by rw [HSZ.out]; exact hlt
      have x0 := hL.out.byt.cell k (by rw [lowL_len]; exact hkl)
      have z0 := hL.out.byt.frozen k (by rw [lowL_len]; exact hkl)
      have hval : (lowL s.data.toList k)[k]'(by rw [lowL_len]; exact hkl) = s.data.toList[k] := by
        have := lowL_at s.data.toList k hkl
        rw [List.getElem?_eq_getElem (by rw [lowL_len]; exact hkl), List.getElem?_eq_getElem hkl] at this
        exact Option.some.inj this
      rw [hval] at x0
      obtain ⟨c, hc⟩ : ∃ c, c = s.data.toList[k] := ⟨_, rfl⟩
      rw [← hc] at x0
      have HC := Lib.hid hc
      have HKL := Lib.hid hkl
      have hc256 : c.toNat < 256 := c.toNat_lt
      clear hc hval
      obtain ⟨n, hn⟩ : ∃ n : Nat, n = c.toNat := ⟨_, rfl⟩
      rw [← hn] at x0 hc256
      have HN := Lib.hid hn
      clear hn
      have i1 : (k : Int) < (s.size : Int) := by omega
      by_cases q1 : 65 ≤ n
      · by_cases q2 : n ≤ 90
        · have d1 : decide ((65 : Int) ≤ (n : Int)) = true := by simp; omega
          have d2 : decide ((n : Int) ≤ 90) = true := by simp; omega
          have hst := Lib.hid (hL.out.step HKL.out (v := (n : Int) + 32) (by rw [← HC.out, lowB_yes (by rw [← HN.out]; exact q1) (by rw [← HN.out]; exact q2), ← HN.out]))
          go_wp2_with fail
          go_roundw
          case rel => exact ⟨k + 1, by omega, by go_num, hst.out⟩
          case measure => simp [intOf]; omega
        · have d1 : decide ((65 : Int) ≤ (n : Int)) = true := by simp; omega
          have d2 : decide ((n : Int) ≤ 90) = false := by simp; omega
          have hst := Lib.hid (hL.out.stay HKL.out (by rw [← HC.out]; exact lowB_no (by rw [← HN.out]; omega)))
          go_wp2_with fail
          go_roundw
          case rel => exact ⟨k + 1, by omega, by go_num, hst.out⟩
          case measure => simp [intOf]; omega
      · have d1 : decide ((65 : Int) ≤ (n : Int)) = false := by simp; omega
        have hst := Lib.hid (hL.out.stay HKL.out (by rw [← HC.out]; exact lowB_no (by rw [← HN.out]; omega)))
        go_wp2_with fail
        go_roundw
        case rel => exact ⟨k + 1, by omega, by go_num, hst.out⟩
        case measure => simp [intOf]; omega
    · have hke : k = s.size := by omega
      subst hke
      have kb := run_convert_bytes_back (P := Try.prog) wr 29 9 5 ⟨w.heap.size, 0, none⟩ cap (lowL s.data.toList s.size) Try.underlying29 Try.underlying5 Try.underlying9 (fun j hj => by rw [addOf _ _ rfl, Nat.zero_add]; exact hL.out.byt.cell j hj)
      rw [lowL_len, HSZ.out] at kb
      have HE := Lib.hid (show (⟨(lowL s.data.toList s.size).toArray⟩ : ByteArray) = lowS s by unfold lowL lowS; rw [List.take_of_length_le (by rw [HSZ.out]; omega), List.drop_of_length_le (by rw [HSZ.out]; omega), List.append_nil])
      rw [HE.out] at kb
      go_wp2_with fail
      go_ret
      exact ⟨rfl, hL.out.fr⟩
set_option maxHeartbeats 2000000 in
set_option maxRecDepth 100000 in
theorem Lower_any (s : ByteArray) (w : World) (hs : s.size ≤ maxLen) :
    Calls Try.prog 55 #[.string s] w fun e w' => e = .returned (.string (lowS s)) ∧ Fr (fun _ => False) w w' := by
  unfold maxLen at hs
  have kc := Lib.run_convert_string_bytes (P := Try.prog) w 9 29 5 s Try.underlying9 Try.underlying29 Try.underlying5
  have L0 := Lib.hid (show LW w (Lib.bytesWorld w 5 s) s 0 from ⟨by simpa [lowL] using Byt.new w s, Fr.bytes w 5 s⟩)
  have hsz : s.data.toList.length = s.size := by rw [Array.length_toList]; rfl
  have HSZ := Lib.hid hsz
  clear hsz
  obtain ⟨cap, hcap⟩ : ∃ cap, cap = grownCap w s.size 0 5 := ⟨_, rfl⟩
  rw [← hcap] at kc
  clear hcap
  generalize Lib.bytesWorld w 5 s = w1 at *
  go_enter Try.func55, Try.ntmps55
  go_wp2_with fail
  go_loopw [10] (fun i wr => ∃ k : Nat, k ≤ s.size ∧ i = .int .i64 k ∧ Hid (LW w wr s k)) (fun i _ => s.size - (intOf i).toNat)
  case atStart => exact ⟨0, by omega, rfl, L0.out⟩
  case round =>
    obtain ⟨k, hk, rfl, hL⟩ := hrel
    clear L0 kc
    by_cases hlt : k < s.size
    · have hkl : k < s.data.toList.length := by rw [HSZ.out]; exact hlt
      have x0 := hL.out.byt.cell k (by rw [lowL_len]; exact hkl)
      have z0 := hL.out.byt.frozen k (by rw [lowL_len]; exact hkl)
      have hval : (lowL s.data.toList k)[k]'(by rw [lowL_len]; exact hkl) = s.data.toList[k] := by
        have := lowL_at s.data.toList k hkl
        rw [List.getElem?_eq_getElem (by rw [lowL_len]; exact hkl), List.getElem?_eq_getElem hkl] at this
        exact Option.some.inj this
      rw [hval] at x0
      obtain ⟨c, hc⟩ : ∃ c, c = s.data.toList[k] := ⟨_, rfl⟩
      rw [← hc] at x0
      have HC := Lib.hid hc
      have HKL := Lib.hid hkl
      have hc256 : c.toNat < 256 := c.toNat_lt
      clear hc hval
      obtain ⟨n, hn⟩ : ∃ n : Nat, n = c.toNat := ⟨_, rfl⟩
      rw [← hn] at x0 hc256
      have HN := Lib.hid hn
      clear hn
      have i1 : (k : Int) < (s.size : Int) := by omega
      by_cases q1 : 65 ≤ n
      · by_cases q2 : n ≤ 90
        · have d1 : decide ((65 : Int) ≤ (n : Int)) = true := by simp; omega
          have d2 : decide ((n : Int) ≤ 90) = true := by simp; omega
          have hst := Lib.hid (hL.out.step HKL.out (v := (n : Int) + 97 - 65) (by rw [← HC.out, lowB_yes (by rw [← HN.out]; exact q1) (by rw [← HN.out]; exact q2), ← HN.out]; omega))
          go_wp2_with fail
          go_roundw
          case rel => exact ⟨k + 1, by omega, by go_num, hst.out⟩
          case measure => simp [intOf]; omega
        · have d1 : decide ((65 : Int) ≤ (n : Int)) = true := by simp; omega
          have d2 : decide ((n : Int) ≤ 90) = false := by simp; omega
          have hst := Lib.hid (hL.out.stay HKL.out (by rw [← HC.out]; exact lowB_no (by rw [← HN.out]; omega)))
          go_wp2_with fail
          go_roundw
          case rel => exact ⟨k + 1, by omega, by go_num, hst.out⟩
          case measure => simp [intOf]; omega
      · have d1 : decide ((65 : Int) ≤ (n : Int)) = false := by simp; omega
        have hst := Lib.hid (hL.out.stay HKL.out (by rw [← HC.out]; exact lowB_no (by rw [← HN.out]; omega)))
        go_wp2_with fail
        go_roundw
        case rel => exact ⟨k + 1, by omega, by go_num, hst.out⟩
        case measure => simp [intOf]; omega
    · have hke : k = s.size := by omega
      subst hke
      have kb := run_convert_bytes_back (P := Try.prog) wr 29 9 5 ⟨w.heap.size, 0, none⟩ cap (lowL s.data.toList s.size) Try.underlying29 Try.underlying5 Try.underlying9 (fun j hj => by rw [addOf _ _ rfl, Nat.zero_add]; exact hL.out.byt.cell j hj)
      rw [lowL_len, HSZ.out] at kb
      have HE := Lib.hid (show (⟨(lowL s.data.toList s.size).toArray⟩ : ByteArray) = lowS s by unfold lowL lowS; rw [List.take_of_length_le (by rw [HSZ.out]; omega), List.drop_of_length_le (by rw [HSZ.out]; omega), List.append_nil])
      rw [HE.out] at kb
      go_wp2_with fail
      go_ret
      exact ⟨rfl, hL.out.fr⟩
end Go.Proofs.Ytknpdkfjmhpbpaa
