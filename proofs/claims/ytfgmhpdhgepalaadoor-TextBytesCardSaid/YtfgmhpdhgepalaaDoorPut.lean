/- The reference's put and Bytes (printed by mkput.py). -/
import Derived.Test.YtfgmhpdhgepalaaDoorLines
namespace Go.Proofs.YtfgmhpdhgepalaaDoor
open Go.RowKit Go.Shelf Go.Maps Go.ChangeShapes Go.WideShapes Go.ChangeAt Go.WideMaps Go.WideElems

theorem or192 (x : Nat) (h : x < 32) : bits .or .i64 192 (x : Int) = ((192 + x : Nat) : Int) := by
  have H : ∀ y : Fin 32, bits .or .i64 192 ((y.1 : Nat) : Int) = ((192 + y.1 : Nat) : Int) := by decide +kernel
  exact H ⟨x, h⟩
theorem or224 (x : Nat) (h : x < 16) : bits .or .i64 224 (x : Int) = ((224 + x : Nat) : Int) := by
  have H : ∀ y : Fin 16, bits .or .i64 224 ((y.1 : Nat) : Int) = ((224 + y.1 : Nat) : Int) := by decide +kernel
  exact H ⟨x, h⟩
theorem or240 (x : Nat) (h : x < 8) : bits .or .i64 240 (x : Int) = ((240 + x : Nat) : Int) := by
  have H : ∀ y : Fin 8, bits .or .i64 240 ((y.1 : Nat) : Int) = ((240 + y.1 : Nat) : Int) := by decide +kernel
  exact H ⟨x, h⟩
theorem or128 (x : Nat) (h : x < 64) : bits .or .i64 128 (x : Int) = ((128 + x : Nat) : Int) := by
  have H : ∀ y : Fin 64, bits .or .i64 128 ((y.1 : Nat) : Int) = ((128 + y.1 : Nat) : Int) := by decide +kernel
  exact H ⟨x, h⟩
theorem Src.many {w : World} {b : Nat} {l : List Value} {T : TypeId} {fz : Nat × Nat} (h : w.heap[b]? = some (.cells l.toArray T fz)) : Src w 1 (some ⟨b, 0, none⟩) l.length l := by
  refine ⟨by omega, (by intro e; cases e), fun ad e j u hj => ?_⟩
  cases e
  rw [addOf _ _ rfl, cellOf h]
  simpa using hj
/-- What has been written, by the reference. -/
def WrW (w wr : World) (v : Value) (bs : List Nat) : Prop := OwnsWin wr w.heap.size 5 1 v bs.length (bR bs) ∧ Fr (fun _ => False) w wr

set_option maxHeartbeats 4000000 in
set_option maxRecDepth 100000 in
theorem put_1 {w wr : World} {v : Value} {bs : List Nat} (h : WrW w wr v bs) (c : Nat) (hlo : 0 ≤ c) (hhi : c ≤ 127) (hl : bs.length ≤ 1000000) :
    Calls Tryd.prog 24 #[v, .int .i64 (c : Int)] wr fun e w' => ∃ v', e = .returned v' ∧ WrW w w' v' (bs ++ enc (c : Int)) := by
  obtain ⟨sp, sc, rfl⟩ := h.1.shape
  have H := Lib.hid h
  obtain ⟨i5, jb0, jb1, jb2, jb3⟩ := info_parts info5
  have R := Lib.hid (show ∀ W, Calls Tryd.prog 27 #[.int .i64 (c : Int)] W (fun e w' => e = .returned (.bool true) ∧ Fr (fun _ => False) W w') from fun W => by
    have := right_any (c : Int) W
    rw [show rightB (c : Int) = true from decide_eq_true (by omega)] at this
    exact this)
  clear h 
  have a0 := i64_and63 (c : Int)


  have HE := Lib.hid (show ([.int .u8 (c : Int)] : List Value) = bR (enc (c : Int)) by rw [enc1 (by omega)]; rfl)
  have HL := Lib.hid (show (enc (c : Int)).length = 1 by have := congrArg List.length HE.out; rw [bR_len] at this; exact this.symm)
  have g128 : decide ((c : Int) < 128) = true := decide_eq_true (by omega)
  have g2048 : decide ((c : Int) < 2048) = true := decide_eq_true (by omega)
  have g65536 : decide ((c : Int) < 65536) = true := decide_eq_true (by omega)

  go_enter Tryd.func24, Tryd.ntmps24
  go_wp2_with (first
    | (go_at_call 27; refine Calls.mono (R.out _) ?_; rintro e w2 ⟨rfl, f2⟩; have F2 := Lib.hid f2; clear f2)
    | (at_builtin; refine wpList_append_src _ rfl (.tmp 11) (.tmp 14) 22 rfl w.heap.size 5 i5 _ 1 1 Tryd.underlying22 jb0 jb1 jb2 jb3 rfl (by decide) (.slice sp bs.length sc) bs.length _ rfl (H.out.1.fr (F2.out.alloc _) (by simp)) (some ⟨_, 0, none⟩) 1 1 [.int .u8 (c : Int)] rfl (Src.many (heapNew _ _)) (by simp [Value.oneCell']) (by unfold maxLen; omega) (by omega) ((H.out.2.trans (F2.out.alloc _)).size) ?_; intro s4 c4 w4 hown hgrow hsh; have F4 := Lib.hid ((H.out.2.trans (F2.out.alloc _)).ownGrown (H.out.1.fr (F2.out.alloc _) (by simp)) (Nat.le_refl _) hgrow); have O4 := Lib.hid hown; clear hown hgrow hsh))
  go_ret
  refine ⟨_, rfl, ?_, F4.out⟩
  rw [List.length_append, HL.out, bR_app, ← HE.out]
  exact O4.out

set_option maxHeartbeats 4000000 in
set_option maxRecDepth 100000 in
theorem put_2 {w wr : World} {v : Value} {bs : List Nat} (h : WrW w wr v bs) (c : Nat) (hlo : 128 ≤ c) (hhi : c ≤ 2047) (hl : bs.length ≤ 1000000) :
    Calls Tryd.prog 24 #[v, .int .i64 (c : Int)] wr fun e w' => ∃ v', e = .returned v' ∧ WrW w w' v' (bs ++ enc (c : Int)) := by
  obtain ⟨sp, sc, rfl⟩ := h.1.shape
  have H := Lib.hid h
  obtain ⟨i5, jb0, jb1, jb2, jb3⟩ := info_parts info5
  have R := Lib.hid (show ∀ W, Calls Tryd.prog 27 #[.int .i64 (c : Int)] W (fun e w' => e = .returned (.bool true) ∧ Fr (fun _ => False) W w') from fun W => by
    have := right_any (c : Int) W
    rw [show rightB (c : Int) = true from decide_eq_true (by omega)] at this
    exact this)
  clear h 
  have a0 := i64_and63 (c : Int)


  have HE := Lib.hid (show ([.int .u8 (bits .or .i64 192 ((c : Int) / 64) % 256), .int .u8 (bits .or .i64 128 ((c : Int) % 64) % 256)] : List Value) = bR (enc (c : Int)) by rw [enc2 (by omega) (by omega)]; simp only [bR, List.map_cons, List.map_nil, List.cons.injEq, Value.int.injEq, true_and, and_true]; refine ⟨(by rw [show (c : Int) / 64 = ((c / 64 : Nat) : Int) by omega, or192 (c / 64) (by omega)]; omega), (by rw [show (c : Int) % 64 = ((c % 64 : Nat) : Int) by omega, or128 (c % 64) (by omega)]; omega)⟩)
  have HL := Lib.hid (show (enc (c : Int)).length = 2 by have := congrArg List.length HE.out; rw [bR_len] at this; exact this.symm)
  have g128 : decide ((c : Int) < 128) = false := decide_eq_false (by omega)
  have g2048 : decide ((c : Int) < 2048) = true := decide_eq_true (by omega)
  have g65536 : decide ((c : Int) < 65536) = true := decide_eq_true (by omega)

  go_enter Tryd.func24, Tryd.ntmps24
  go_wp2_with (first
    | (go_at_call 27; refine Calls.mono (R.out _) ?_; rintro e w2 ⟨rfl, f2⟩; have F2 := Lib.hid f2; clear f2)
    | (at_builtin; refine wpList_append_src _ rfl (.tmp 19) (.tmp 28) 22 rfl w.heap.size 5 i5 _ 1 1 Tryd.underlying22 jb0 jb1 jb2 jb3 rfl (by decide) (.slice sp bs.length sc) bs.length _ rfl (H.out.1.fr (F2.out.alloc _) (by simp)) (some ⟨_, 0, none⟩) 2 2 [.int .u8 (bits .or .i64 192 ((c : Int) / 64) % 256), .int .u8 (bits .or .i64 128 ((c : Int) % 64) % 256)] rfl (Src.many (heapNew _ _)) (by simp [Value.oneCell']) (by unfold maxLen; omega) (by omega) ((H.out.2.trans (F2.out.alloc _)).size) ?_; intro s4 c4 w4 hown hgrow hsh; have F4 := Lib.hid ((H.out.2.trans (F2.out.alloc _)).ownGrown (H.out.1.fr (F2.out.alloc _) (by simp)) (Nat.le_refl _) hgrow); have O4 := Lib.hid hown; clear hown hgrow hsh))
  go_ret
  refine ⟨_, rfl, ?_, F4.out⟩
  rw [List.length_append, HL.out, bR_app, ← HE.out]
  exact O4.out

set_option maxHeartbeats 4000000 in
set_option maxRecDepth 100000 in
theorem put_3 {w wr : World} {v : Value} {bs : List Nat} (h : WrW w wr v bs) (c : Nat) (hlo : 2048 ≤ c) (hhi : c ≤ 55295) (hl : bs.length ≤ 1000000) :
    Calls Tryd.prog 24 #[v, .int .i64 (c : Int)] wr fun e w' => ∃ v', e = .returned v' ∧ WrW w w' v' (bs ++ enc (c : Int)) := by
  obtain ⟨sp, sc, rfl⟩ := h.1.shape
  have H := Lib.hid h
  obtain ⟨i5, jb0, jb1, jb2, jb3⟩ := info_parts info5
  have R := Lib.hid (show ∀ W, Calls Tryd.prog 27 #[.int .i64 (c : Int)] W (fun e w' => e = .returned (.bool true) ∧ Fr (fun _ => False) W w') from fun W => by
    have := right_any (c : Int) W
    rw [show rightB (c : Int) = true from decide_eq_true (by omega)] at this
    exact this)
  clear h 
  have a0 := i64_and63 (c : Int)
  have a1 := i64_and63 ((c : Int) / 64)

  have HE := Lib.hid (show ([.int .u8 (bits .or .i64 224 ((c : Int) / 4096) % 256), .int .u8 (bits .or .i64 128 ((c : Int) / 64 % 64) % 256), .int .u8 (bits .or .i64 128 ((c : Int) % 64) % 256)] : List Value) = bR (enc (c : Int)) by rw [enc3 (by omega)]; simp only [bR, List.map_cons, List.map_nil, List.cons.injEq, Value.int.injEq, true_and, and_true]; refine ⟨(by rw [show (c : Int) / 4096 = ((c / 4096 : Nat) : Int) by omega, or224 (c / 4096) (by omega)]; omega), (by rw [show (c : Int) / 64 % 64 = ((c / 64 % 64 : Nat) : Int) by omega, or128 (c / 64 % 64) (by omega)]; omega), (by rw [show (c : Int) % 64 = ((c % 64 : Nat) : Int) by omega, or128 (c % 64) (by omega)]; omega)⟩)
  have HL := Lib.hid (show (enc (c : Int)).length = 3 by have := congrArg List.length HE.out; rw [bR_len] at this; exact this.symm)
  have g128 : decide ((c : Int) < 128) = false := decide_eq_false (by omega)
  have g2048 : decide ((c : Int) < 2048) = false := decide_eq_false (by omega)
  have g65536 : decide ((c : Int) < 65536) = true := decide_eq_true (by omega)

  go_enter Tryd.func24, Tryd.ntmps24
  go_wp2_with (first
    | (go_at_call 27; refine Calls.mono (R.out _) ?_; rintro e w2 ⟨rfl, f2⟩; have F2 := Lib.hid f2; clear f2)
    | (at_builtin; refine wpList_append_src _ rfl (.tmp 33) (.tmp 47) 22 rfl w.heap.size 5 i5 _ 1 1 Tryd.underlying22 jb0 jb1 jb2 jb3 rfl (by decide) (.slice sp bs.length sc) bs.length _ rfl (H.out.1.fr (F2.out.alloc _) (by simp)) (some ⟨_, 0, none⟩) 3 3 [.int .u8 (bits .or .i64 224 ((c : Int) / 4096) % 256), .int .u8 (bits .or .i64 128 ((c : Int) / 64 % 64) % 256), .int .u8 (bits .or .i64 128 ((c : Int) % 64) % 256)] rfl (Src.many (heapNew _ _)) (by simp [Value.oneCell']) (by unfold maxLen; omega) (by omega) ((H.out.2.trans (F2.out.alloc _)).size) ?_; intro s4 c4 w4 hown hgrow hsh; have F4 := Lib.hid ((H.out.2.trans (F2.out.alloc _)).ownGrown (H.out.1.fr (F2.out.alloc _) (by simp)) (Nat.le_refl _) hgrow); have O4 := Lib.hid hown; clear hown hgrow hsh))
  go_ret
  refine ⟨_, rfl, ?_, F4.out⟩
  rw [List.length_append, HL.out, bR_app, ← HE.out]
  exact O4.out

set_option maxHeartbeats 4000000 in
set_option maxRecDepth 100000 in
theorem put_3h {w wr : World} {v : Value} {bs : List Nat} (h : WrW w wr v bs) (c : Nat) (hlo : 57344 ≤ c) (hhi : c ≤ 65535) (hl : bs.length ≤ 1000000) :
    Calls Tryd.prog 24 #[v, .int .i64 (c : Int)] wr fun e w' => ∃ v', e = .returned v' ∧ WrW w w' v' (bs ++ enc (c : Int)) := by
  obtain ⟨sp, sc, rfl⟩ := h.1.shape
  have H := Lib.hid h
  obtain ⟨i5, jb0, jb1, jb2, jb3⟩ := info_parts info5
  have R := Lib.hid (show ∀ W, Calls Tryd.prog 27 #[.int .i64 (c : Int)] W (fun e w' => e = .returned (.bool true) ∧ Fr (fun _ => False) W w') from fun W => by
    have := right_any (c : Int) W
    rw [show rightB (c : Int) = true from decide_eq_true (by omega)] at this
    exact this)
  clear h 
  have a0 := i64_and63 (c : Int)
  have a1 := i64_and63 ((c : Int) / 64)

  have HE := Lib.hid (show ([.int .u8 (bits .or .i64 224 ((c : Int) / 4096) % 256), .int .u8 (bits .or .i64 128 ((c : Int) / 64 % 64) % 256), .int .u8 (bits .or .i64 128 ((c : Int) % 64) % 256)] : List Value) = bR (enc (c : Int)) by rw [enc3 (by omega)]; simp only [bR, List.map_cons, List.map_nil, List.cons.injEq, Value.int.injEq, true_and, and_true]; refine ⟨(by rw [show (c : Int) / 4096 = ((c / 4096 : Nat) : Int) by omega, or224 (c / 4096) (by omega)]; omega), (by rw [show (c : Int) / 64 % 64 = ((c / 64 % 64 : Nat) : Int) by omega, or128 (c / 64 % 64) (by omega)]; omega), (by rw [show (c : Int) % 64 = ((c % 64 : Nat) : Int) by omega, or128 (c % 64) (by omega)]; omega)⟩)
  have HL := Lib.hid (show (enc (c : Int)).length = 3 by have := congrArg List.length HE.out; rw [bR_len] at this; exact this.symm)
  have g128 : decide ((c : Int) < 128) = false := decide_eq_false (by omega)
  have g2048 : decide ((c : Int) < 2048) = false := decide_eq_false (by omega)
  have g65536 : decide ((c : Int) < 65536) = true := decide_eq_true (by omega)

  go_enter Tryd.func24, Tryd.ntmps24
  go_wp2_with (first
    | (go_at_call 27; refine Calls.mono (R.out _) ?_; rintro e w2 ⟨rfl, f2⟩; have F2 := Lib.hid f2; clear f2)
    | (at_builtin; refine wpList_append_src _ rfl (.tmp 33) (.tmp 47) 22 rfl w.heap.size 5 i5 _ 1 1 Tryd.underlying22 jb0 jb1 jb2 jb3 rfl (by decide) (.slice sp bs.length sc) bs.length _ rfl (H.out.1.fr (F2.out.alloc _) (by simp)) (some ⟨_, 0, none⟩) 3 3 [.int .u8 (bits .or .i64 224 ((c : Int) / 4096) % 256), .int .u8 (bits .or .i64 128 ((c : Int) / 64 % 64) % 256), .int .u8 (bits .or .i64 128 ((c : Int) % 64) % 256)] rfl (Src.many (heapNew _ _)) (by simp [Value.oneCell']) (by unfold maxLen; omega) (by omega) ((H.out.2.trans (F2.out.alloc _)).size) ?_; intro s4 c4 w4 hown hgrow hsh; have F4 := Lib.hid ((H.out.2.trans (F2.out.alloc _)).ownGrown (H.out.1.fr (F2.out.alloc _) (by simp)) (Nat.le_refl _) hgrow); have O4 := Lib.hid hown; clear hown hgrow hsh))
  go_ret
  refine ⟨_, rfl, ?_, F4.out⟩
  rw [List.length_append, HL.out, bR_app, ← HE.out]
  exact O4.out

set_option maxHeartbeats 4000000 in
set_option maxRecDepth 100000 in
theorem put_4 {w wr : World} {v : Value} {bs : List Nat} (h : WrW w wr v bs) (c : Nat) (hlo : 65536 ≤ c) (hhi : c ≤ 1114111) (hl : bs.length ≤ 1000000) :
    Calls Tryd.prog 24 #[v, .int .i64 (c : Int)] wr fun e w' => ∃ v', e = .returned v' ∧ WrW w w' v' (bs ++ enc (c : Int)) := by
  obtain ⟨sp, sc, rfl⟩ := h.1.shape
  have H := Lib.hid h
  obtain ⟨i5, jb0, jb1, jb2, jb3⟩ := info_parts info5
  have R := Lib.hid (show ∀ W, Calls Tryd.prog 27 #[.int .i64 (c : Int)] W (fun e w' => e = .returned (.bool true) ∧ Fr (fun _ => False) W w') from fun W => by
    have := right_any (c : Int) W
    rw [show rightB (c : Int) = true from decide_eq_true (by omega)] at this
    exact this)
  clear h 
  have a0 := i64_and63 (c : Int)
  have a1 := i64_and63 ((c : Int) / 64)
  have a2 := i64_and63 ((c : Int) / 4096)
  have HE := Lib.hid (show ([.int .u8 (bits .or .i64 240 ((c : Int) / 262144) % 256), .int .u8 (bits .or .i64 128 ((c : Int) / 4096 % 64) % 256), .int .u8 (bits .or .i64 128 ((c : Int) / 64 % 64) % 256), .int .u8 (bits .or .i64 128 ((c : Int) % 64) % 256)] : List Value) = bR (enc (c : Int)) by rw [enc4 (by omega) (by omega)]; simp only [bR, List.map_cons, List.map_nil, List.cons.injEq, Value.int.injEq, true_and, and_true]; refine ⟨(by rw [show (c : Int) / 262144 = ((c / 262144 : Nat) : Int) by omega, or240 (c / 262144) (by omega)]; omega), (by rw [show (c : Int) / 4096 % 64 = ((c / 4096 % 64 : Nat) : Int) by omega, or128 (c / 4096 % 64) (by omega)]; omega), (by rw [show (c : Int) / 64 % 64 = ((c / 64 % 64 : Nat) : Int) by omega, or128 (c / 64 % 64) (by omega)]; omega), (by rw [show (c : Int) % 64 = ((c % 64 : Nat) : Int) by omega, or128 (c % 64) (by omega)]; omega)⟩)
  have HL := Lib.hid (show (enc (c : Int)).length = 4 by have := congrArg List.length HE.out; rw [bR_len] at this; exact this.symm)
  have g128 : decide ((c : Int) < 128) = false := decide_eq_false (by omega)
  have g2048 : decide ((c : Int) < 2048) = false := decide_eq_false (by omega)
  have g65536 : decide ((c : Int) < 65536) = false := decide_eq_false (by omega)

  go_enter Tryd.func24, Tryd.ntmps24
  go_wp2_with (first
    | (go_at_call 27; refine Calls.mono (R.out _) ?_; rintro e w2 ⟨rfl, f2⟩; have F2 := Lib.hid f2; clear f2)
    | (at_builtin; refine wpList_append_src _ rfl (.tmp 49) (.tmp 68) 22 rfl w.heap.size 5 i5 _ 1 1 Tryd.underlying22 jb0 jb1 jb2 jb3 rfl (by decide) (.slice sp bs.length sc) bs.length _ rfl (H.out.1.fr (F2.out.alloc _) (by simp)) (some ⟨_, 0, none⟩) 4 4 [.int .u8 (bits .or .i64 240 ((c : Int) / 262144) % 256), .int .u8 (bits .or .i64 128 ((c : Int) / 4096 % 64) % 256), .int .u8 (bits .or .i64 128 ((c : Int) / 64 % 64) % 256), .int .u8 (bits .or .i64 128 ((c : Int) % 64) % 256)] rfl (Src.many (heapNew _ _)) (by simp [Value.oneCell']) (by unfold maxLen; omega) (by omega) ((H.out.2.trans (F2.out.alloc _)).size) ?_; intro s4 c4 w4 hown hgrow hsh; have F4 := Lib.hid ((H.out.2.trans (F2.out.alloc _)).ownGrown (H.out.1.fr (F2.out.alloc _) (by simp)) (Nat.le_refl _) hgrow); have O4 := Lib.hid hown; clear hown hgrow hsh))
  go_ret
  refine ⟨_, rfl, ?_, F4.out⟩
  rw [List.length_append, HL.out, bR_app, ← HE.out]
  exact O4.out

theorem k224 : bits .or .i64 224 15 = 239 := by decide +kernel
theorem k63 : bits .and .i64 1023 63 = 63 := by decide +kernel
theorem k191 : bits .or .i64 128 63 = 191 := by decide +kernel
theorem k61 : bits .and .i64 65533 63 = 61 := by decide +kernel
theorem k189 : bits .or .i64 128 61 = 189 := by decide +kernel
theorem enc_wrong {z : Int} (h : rightB z = false) : enc z = [239, 191, 189] := by
  have h2 := of_decide_eq_false (show decide _ = false from h)
  unfold enc
  rw [Lib.encodeRuneZ_bad (by omega)]
  rfl
set_option maxHeartbeats 4000000 in
set_option maxRecDepth 100000 in
theorem put_no {w wr : World} {v : Value} {bs : List Nat} (h : WrW w wr v bs) (z : Int) (hz : rightB z = false) (hl : bs.length ≤ 1000000) :
    Calls Tryd.prog 24 #[v, .int .i64 z] wr fun e w' => ∃ v', e = .returned v' ∧ WrW w w' v' (bs ++ enc z) := by
  rw [enc_wrong hz]
  obtain ⟨sp, sc, rfl⟩ := h.1.shape
  have H := Lib.hid h
  obtain ⟨i5, jb0, jb1, jb2, jb3⟩ := info_parts info5
  have R := Lib.hid (show ∀ W, Calls Tryd.prog 27 #[.int .i64 z] W (fun e w' => e = .returned (.bool false) ∧ Fr (fun _ => False) W w') from fun W => by
    have := right_any z W
    rw [hz] at this
    exact this)
  clear h hz
  have a1 := k224
  have a2 := k63
  have a3 := k191
  have a4 := k61
  have a5 := k189
  go_enter Tryd.func24, Tryd.ntmps24
  go_wp2_with (first
    | (go_at_call 27; refine Calls.mono (R.out _) ?_; rintro e w2 ⟨rfl, f2⟩; have F2 := Lib.hid f2; clear f2)
    | (at_builtin; refine wpList_append_src _ rfl (.tmp 33) (.tmp 47) 22 rfl w.heap.size 5 i5 _ 1 1 Tryd.underlying22 jb0 jb1 jb2 jb3 rfl (by decide) (.slice sp bs.length sc) bs.length _ rfl (H.out.1.fr (F2.out.alloc _) (by simp)) (some ⟨_, 0, none⟩) 3 3 [.int .u8 239, .int .u8 191, .int .u8 189] rfl (Src.many (heapNew _ _)) (by simp [Value.oneCell']) (by unfold maxLen; omega) (by omega) ((H.out.2.trans (F2.out.alloc _)).size) ?_; intro s4 c4 w4 hown hgrow hsh; have F4 := Lib.hid ((H.out.2.trans (F2.out.alloc _)).ownGrown (H.out.1.fr (F2.out.alloc _) (by simp)) (Nat.le_refl _) hgrow); have O4 := Lib.hid hown; clear hown hgrow hsh))
  go_ret
  refine ⟨_, rfl, ?_, F4.out⟩
  rw [List.length_append, bR_app]
  exact O4.out
theorem put_any {w wr : World} {v : Value} {bs : List Nat} (h : WrW w wr v bs) (z : Int) (hl : bs.length ≤ 1000000) :
    Calls Tryd.prog 24 #[v, .int .i64 z] wr fun e w' => ∃ v', e = .returned v' ∧ WrW w w' v' (bs ++ enc z) := by
  by_cases hz : rightB z = true
  · have h2 := of_decide_eq_true (show decide _ = true from hz)
    obtain ⟨c, rfl⟩ := Int.eq_ofNat_of_zero_le h2.1
    by_cases k1 : c ≤ 127
    · exact put_1 h c (by omega) k1 hl
    by_cases k2 : c ≤ 2047
    · exact put_2 h c (by omega) k2 hl
    by_cases k3 : c ≤ 55295
    · exact put_3 h c (by omega) k3 hl
    by_cases k4 : c ≤ 65535
    · exact put_3h h c (by omega) k4 hl
    · exact put_4 h c (by omega) (by omega) hl
  · exact put_no h z (by simpa using hz) hl
set_option maxHeartbeats 4000000 in
set_option maxRecDepth 100000 in
theorem RBytes_any (w : World) (p : Option Addr) (c : Nat) (l : List Int) (hr : RdI w p l) (hl : l.length ≤ 100000) :
    Calls Tryd.prog 20 #[.slice p l.length c] w (NewB w (encs l)) := by
  have HR := Lib.hid hr
  clear hr
  go_enter Tryd.func20, Tryd.ntmps20
  go_wp2_with fail
  go_loopw [3, 4] (fun o i wr => ∃ (k : Nat), k ≤ l.length ∧ i = .int .i64 k ∧ Hid (WrW w wr o (encs (l.take k)))) (fun _ i _ => l.length - (intOf i).toNat)
  case atStart => exact ⟨0, by omega, rfl, ⟨OwnsWin.nil _ _ _ _, Fr.refl _ _⟩⟩
  case round =>
    obtain ⟨k, hk, rfl, hW⟩ := hrel
    by_cases hlt : k < l.length
    · obtain ⟨z, hz⟩ : ∃ x, l[k]? = some x := ⟨l[k], List.getElem?_eq_getElem hlt⟩
      obtain ⟨g, off, rfl, x0⟩ := (HR.out.fr hW.out.2) k z hz
      have hlen := encs_len (l.take k)
      rw [List.length_take] at hlen
      have q1 : (k : Int) < (l.length : Int) := by omega
      have A := Lib.hid (put_any hW.out z (by omega))
      rw [show encs (l.take k) ++ enc z = encs (l.take (k + 1)) by rw [List.take_add_one, hz]; exact (encs_snoc _ _).symm] at A
      clear hz hW
      go_wp2_with (go_at_call 24; refine Calls.mono A.out ?_; rintro e w2 ⟨v2, rfl, h2⟩; have H2 := Lib.hid h2; clear h2)
      go_roundw
      case rel => exact ⟨k + 1, by omega, by first | rfl | go_num, H2.out⟩
      case measure => simp [intOf]; omega
    · obtain rfl : k = l.length := by omega
      have q1 : ¬ ((l.length : Int) < (l.length : Int)) := by omega
      rw [List.take_length] at hW
      obtain ⟨sp, cc, hv⟩ := hW.out.1.shape
      subst hv
      go_wp2_with fail
      go_ret
      exact ⟨sp, cc, rfl, hW.out.1, hW.out.2⟩

end Go.Proofs.YtfgmhpdhgepalaaDoor
