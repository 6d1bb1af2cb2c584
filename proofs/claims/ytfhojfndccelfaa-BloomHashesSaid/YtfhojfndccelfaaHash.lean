/- The hash of a name: the program's and the reference's answer one number. No condition but the text's size. -/
import Derived.Test.YtfhojfndccelfaaFil
import Derived.Lib.ConvBytes
import Derived.Laws.IdiomStrings
import Derived.BigQuiet
import Derived.Deep.QuietTactic
namespace Go.Proofs.Ytfhojfndccelfaa
open Go.RowKit Go.Maps Go.ChangeShapes Go.WideShapes Go.ChangeAt Go.WideMaps Go.WideElems

/-- One step of the hash. -/
def hs (h c : Nat) : Nat := (h ^^^ c) * 16777619 % 4294967296
def hL (h : Nat) (l : List UInt8) : Nat := l.foldl (fun h c => hs h c.toNat) h
def h0 (kind : Int) : Nat := hs 2166136261 (kind % 256).toNat
def hN (kind : Int) (s : ByteArray) : Nat := hL (h0 kind) s.data.toList

theorem hs_lt (h c : Nat) : hs h c < 4294967296 := Nat.mod_lt _ (by omega)
theorem h0_lt (kind : Int) : h0 kind < 4294967296 := hs_lt _ _
theorem hL_lt (h : Nat) (hh : h < 4294967296) (l : List UInt8) : hL h l < 4294967296 := by
  unfold hL
  induction l generalizing h with
  | nil => exact hh
  | cons c l ih => exact ih _ (hs_lt _ _)
theorem hN_lt (kind : Int) (s : ByteArray) : hN kind s < 4294967296 := hL_lt _ (h0_lt _) _
theorem hL_take (h : Nat) (l : List UInt8) (k : Nat) (c : UInt8) (hk : l[k]? = some c) : hL h (l.take (k + 1)) = hs (hL h (l.take k)) c.toNat := by
  unfold hL
  rw [List.take_add_one, hk, List.foldl_append, Option.toList_some, List.foldl_cons, List.foldl_nil]

theorem hL_zero (h : Nat) (l : List UInt8) : hL h (l.take 0) = h := by simp [hL]
theorem xor_lt {a c : Nat} (ha : a < 4294967296) (hc : c < 256) : a ^^^ c < 4294967296 := Nat.xor_lt_two_pow (n := 32) ha (by omega)
theorem xor_u32 {a c : Nat} (ha : a < 4294967296) (hc : c < 256) : bits .xor .u32 (a : Int) (c : Int) = ((a ^^^ c : Nat) : Int) := by
  have hx := xor_lt ha hc
  have h : (BitVec.ofInt 32 (a : Int) ^^^ BitVec.ofInt 32 (c : Int)).toNat = a ^^^ c := by
    rw [BitVec.toNat_xor, BitVec.toNat_ofInt, BitVec.toNat_ofInt]
    have e1 : ((a : Int) % ((2 ^ 32 : Nat) : Int)).toNat = a := by omega
    have e2 : ((c : Int) % ((2 ^ 32 : Nat) : Int)).toNat = c := by omega
    rw [e1, e2]
  show IntKind.u32.wrap ((BitVec.ofInt 32 (a : Int) ^^^ BitVec.ofInt 32 (c : Int)).toNat : Nat) = _
  rw [h]
  rw [IntKind.wrap_u32]
  omega
theorem xor_i64 {a c : Nat} (ha : a < 4294967296) (hc : c < 256) : bits .xor .i64 (a : Int) (c : Int) = ((a ^^^ c : Nat) : Int) := by
  have hx := xor_lt ha hc
  have h : (BitVec.ofInt 64 (a : Int) ^^^ BitVec.ofInt 64 (c : Int)).toNat = a ^^^ c := by
    rw [BitVec.toNat_xor, BitVec.toNat_ofInt, BitVec.toNat_ofInt]
    have e1 : ((a : Int) % ((2 ^ 64 : Nat) : Int)).toNat = a := by omega
    have e2 : ((c : Int) % ((2 ^ 64 : Nat) : Int)).toNat = c := by omega
    rw [e1, e2]
  show IntKind.i64.wrap ((BitVec.ofInt 64 (a : Int) ^^^ BitVec.ofInt 64 (c : Int)).toNat : Nat) = _
  rw [h, IntKind.wrap_i64]
  omega
theorem and255 (n : Int) : bits .and .i64 n 255 = ((n % 256).toNat : Int) := by
  have h : (BitVec.ofInt 64 n &&& BitVec.ofInt 64 255).toNat = (n % ((2 ^ 64 : Nat) : Int)).toNat % 2 ^ 8 := by
    rw [BitVec.toNat_and, BitVec.toNat_ofInt, show (BitVec.ofInt 64 255).toNat = 2 ^ 8 - 1 by decide, Nat.and_two_pow_sub_one_eq_mod]
  show IntKind.i64.wrap ((BitVec.ofInt 64 n &&& BitVec.ofInt 64 255).toNat : Nat) = _
  rw [h, IntKind.wrap_i64]
  omega

/-- Block b begins with these bytes. -/
def Byt (w : World) (b : Nat) (l : List UInt8) : Prop :=
  ∃ C : Array Value, w.heap[b]? = some (.cells C 5 (C.size, C.size + 1)) ∧ l.length ≤ C.size ∧ ∀ j (h : j < l.length), C[j]? = some (.int .u8 (l[j].toNat : Int))
theorem Byt.cell {w : World} {b : Nat} {l : List UInt8} (h : Byt w b l) (j : Nat) (hj : j < l.length) : w.cell? ⟨b, j, none⟩ = some (.int .u8 (l[j].toNat : Int)) := by
  obtain ⟨C, h1, _, h3⟩ := h
  rw [cellOf h1]
  exact h3 j hj
theorem Byt.new (w : World) (s : ByteArray) : Byt (Lib.bytesWorld w 5 s) w.heap.size s.data.toList := by
  refine ⟨Lib.bytesCells w 5 s, Lib.bytesWorld_at_new w 5 s, by simp [Lib.bytesCells], fun j hj => ?_⟩
  have hj' : j < s.data.size := by simpa using hj
  have hj2 : j < s.size := hj'
  simp [Lib.bytesCells, Array.getElem?_append, hj2]
theorem Fr.bytes (w : World) (e : TypeId) (s : ByteArray) : Fr (fun _ => False) w (Lib.bytesWorld w e s) :=
  ⟨rfl, rfl, rfl, by rw [Lib.bytesWorld_size]; omega, fun k hk _ => Lib.bytesWorld_at_old w e s k hk⟩

set_option maxHeartbeats 2000000 in
set_option maxRecDepth 100000 in
theorem Hash_any (kind : Int) (s : ByteArray) (w : World) (hsz0 : s.size ≤ maxLen) :
    Calls Try.prog 21 #[.int .i64 kind, .string s] w fun e w' => e = .returned (.int .i64 (hN kind s : Nat)) ∧ Fr (fun _ => False) w w' := by
  unfold maxLen at hsz0
  have kc := Lib.run_convert_string_bytes (P := Try.prog) w 9 79 5 s Try.underlying9 Try.underlying79 Try.underlying5
  have HB := Lib.hid (Byt.new w s)
  have HF := Lib.hid (Fr.bytes w 5 s)
  have hsz : s.data.toList.length = s.size := by rw [Array.length_toList]; rfl
  have HSZ := Lib.hid hsz
  clear hsz
  obtain ⟨cap, hcap⟩ : ∃ cap, cap = grownCap w s.size 0 5 := ⟨_, rfl⟩
  rw [← hcap] at kc
  clear hcap
  generalize Lib.bytesWorld w 5 s = w1 at *
  have k0 := and255 kind
  have kk : (kind % 256).toNat < 256 := by omega
  have hN0 : hN kind s = hL (h0 kind) s.data.toList := rfl
  rw [hN0]
  have hh0 : h0 kind = hs 2166136261 (kind % 256).toNat := rfl
  rw [hh0]
  clear hN0 hh0
  generalize (kind % 256).toNat = q at *
  have k1 : bits .xor .u32 2166136261 (q : Int) = ((2166136261 ^^^ q : Nat) : Int) := by rw [show (2166136261 : Int) = ((2166136261 : Nat) : Int) from rfl]; exact xor_u32 (by omega) kk
  have k2 := xor_lt (a := 2166136261) (c := q) (by omega) kk
  have k3 : hs 2166136261 q = (2166136261 ^^^ q) * 16777619 % 4294967296 := rfl
  generalize 2166136261 ^^^ q = r at *
  have K4 := Lib.hid (hs_lt 2166136261 q)
  have K5 := Lib.hid (show ((hs 2166136261 q : Nat) : Int) = (r : Int) * 16777619 % 4294967296 by rw [k3]; omega)
  generalize hs 2166136261 q = g at *
  clear k3 k2
  go_enter Try.func21, Try.ntmps21
  go_wp2_with fail
  go_loopw [5, 17] (fun h i wr => ∃ k : Nat, k ≤ s.size ∧ h = .int .u32 ((hL g (s.data.toList.take k) : Nat) : Int) ∧ i = .int .i64 k ∧ Hid (Byt wr w.heap.size s.data.toList) ∧ Hid (Fr (fun _ => False) w wr)) (fun _ i _ => s.size - (intOf i).toNat)
  case atStart => exact ⟨0, by omega, by rw [← K5.out, hL_zero], rfl, HB, HF⟩
  case round =>
    obtain ⟨k, hk, rfl, rfl, hB, hF⟩ := hrel
    clear HB HF kc k0 k1 K5 kk
    by_cases hlt : k < s.size
    · have hkl : k < s.data.toList.length := by rw [HSZ.out]; exact hlt
      have x0 := hB.out.cell k hkl
      have HT := Lib.hid (hL_take g s.data.toList k _ (List.getElem?_eq_getElem hkl))
      have m0 := hL_lt g K4.out (s.data.toList.take k)
      generalize hL g (s.data.toList.take k) = u at *
      have hb := s.data.toList[k].toNat_lt
      generalize s.data.toList[k].toNat = c at *
      have k1 := xor_u32 (a := u) (c := c) m0 (by omega)
      have k2 := xor_lt (a := u) (c := c) m0 (by omega)
      have K3 := Lib.hid (show ((hs u c : Nat) : Int) = ((u ^^^ c : Nat) : Int) * 16777619 % 4294967296 by unfold hs; omega)
      generalize u ^^^ c = r at *
      have d0 : decide ((k : Int) < (s.size : Int)) = true := by simp; omega
      clear hkl
      go_wp2_with fail
      go_roundw
      case rel => exact ⟨k + 1, by omega, by rw [HT.out, K3.out], by go_num, hB, hF⟩
      case measure => simp [intOf]; omega
    · obtain rfl : k = s.size := by omega
      rw [List.take_of_length_le (by rw [HSZ.out]; omega)]
      have m0 := hL_lt g K4.out s.data.toList
      obtain ⟨u, hu⟩ : ∃ u, hL g s.data.toList = u := ⟨_, rfl⟩
      rw [hu] at m0 ⊢
      have HU := Lib.hid hu
      clear hu
      have d0 : decide ((s.size : Int) < (s.size : Int)) = false := by simp
      go_wp2_with fail
      go_ret
      exact ⟨by rw [HU.out]; rfl, hF.out⟩

set_option maxHeartbeats 2000000 in
set_option maxRecDepth 100000 in
theorem RHash_any (kind : Int) (s : ByteArray) (w : World) (hsz0 : s.size ≤ maxLen) :
    Calls Try.prog 22 #[.int .i64 kind, .string s] w fun e w' => e = .returned (.int .i64 (hN kind s : Nat)) ∧ w' = w := by
  unfold maxLen at hsz0
  have hsz : s.data.toList.length = s.size := by rw [Array.length_toList]; rfl
  have HSZ := Lib.hid hsz
  clear hsz
  have k0 := and255 kind
  have kk : (kind % 256).toNat < 256 := by omega
  have hN0 : hN kind s = hL (h0 kind) s.data.toList := rfl
  rw [hN0]
  have hh0 : h0 kind = hs 2166136261 (kind % 256).toNat := rfl
  rw [hh0]
  clear hN0 hh0
  generalize (kind % 256).toNat = q at *
  have k1 : bits .xor .i64 2166136261 (q : Int) = ((2166136261 ^^^ q : Nat) : Int) := by rw [show (2166136261 : Int) = ((2166136261 : Nat) : Int) from rfl]; exact xor_i64 (by omega) kk
  have k2 := xor_lt (a := 2166136261) (c := q) (by omega) kk
  have k3 : hs 2166136261 q = (2166136261 ^^^ q) * 16777619 % 4294967296 := rfl
  generalize 2166136261 ^^^ q = r at *
  have K4 := Lib.hid (hs_lt 2166136261 q)
  have K5 := Lib.hid (show ((hs 2166136261 q : Nat) : Int) = (r : Int) * 16777619 % 4294967296 by rw [k3]; omega)
  have k6 := i64_and32 ((r : Int) * 16777619)
  generalize hs 2166136261 q = g at *
  clear k3
  go_enter Try.func22, Try.ntmps22
  go_wp2_with fail
  go_loopw [5, 6] (fun h i wr => ∃ k : Nat, k ≤ s.size ∧ h = .int .i64 ((hL g (s.data.toList.take k) : Nat) : Int) ∧ i = .int .i64 k ∧ wr = w) (fun _ i _ => s.size - (intOf i).toNat)
  case atStart => exact ⟨0, by omega, by rw [← K5.out, hL_zero], rfl, rfl⟩
  case round =>
    obtain ⟨k, hk, rfl, rfl, rfl⟩ := hrel
    clear k0 k1 k2 K5 k6
    by_cases hlt : k < s.size
    · have hkl : k < s.data.toList.length := by rw [HSZ.out]; exact hlt
      have hb := s.data.toList[k].toNat_lt
      have HT := Lib.hid (hL_take g s.data.toList k _ (List.getElem?_eq_getElem hkl))
      have m0 := hL_lt g K4.out (s.data.toList.take k)
      generalize hL g (s.data.toList.take k) = u at *
      have hk3 : k < s.data.size := hlt
      have y0 : s.data.toList[k] = s.data[k] := by simp
      rw [y0] at hb HT
      obtain ⟨c, hc⟩ : ∃ c, s.data[k].toNat = c := ⟨_, rfl⟩
      rw [hc] at hb HT
      have y1 : wrap64 (c : Int) = (c : Int) := by unfold wrap64; omega
      have hc2 : (s[k]'hlt).toNat = c := hc
      clear y0
      have k1 := xor_i64 (a := u) (c := c) m0 (by omega)
      have k2 := xor_lt (a := u) (c := c) m0 (by omega)
      have k3 := i64_and32 (((u ^^^ c : Nat) : Int) * 16777619)
      have K3 := Lib.hid (show ((hs u c : Nat) : Int) = ((u ^^^ c : Nat) : Int) * 16777619 % 4294967296 by unfold hs; omega)
      generalize u ^^^ c = r at *
      have d0 : decide ((k : Int) < (s.size : Int)) = true := by simp; omega
      clear hkl
      go_wp2_with fail
      go_roundw
      case rel => exact ⟨k + 1, by omega, by rw [HT.out, K3.out], by go_num, trivial⟩
      case measure => simp [intOf]; omega
    · obtain rfl : k = s.size := by omega
      rw [List.take_of_length_le (by rw [HSZ.out]; omega)]
      have m0 := hL_lt g K4.out s.data.toList
      obtain ⟨u, hu⟩ : ∃ u, hL g s.data.toList = u := ⟨_, rfl⟩
      rw [hu] at m0 ⊢
      have HU := Lib.hid hu
      clear hu
      have d0 : decide ((s.size : Int) < (s.size : Int)) = false := by simp
      go_wp2_with fail
      go_ret
      exact ⟨by rw [HU.out]; rfl, rfl⟩
end Go.Proofs.Ytfhojfndccelfaa
