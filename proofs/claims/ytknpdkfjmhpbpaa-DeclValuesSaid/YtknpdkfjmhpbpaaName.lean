/- name, in the reference: a plain name. -/
import Derived.Test.YtknpdkfjmhpbpaaPut
import Derived.Laws.BytesArg
namespace Go.Proofs.Ytknpdkfjmhpbpaa
open Go.RowKit Go.Maps Go.ChangeShapes Go.WideShapes Go.ChangeAt Go.WideMaps Go.WideElems

def uR (l : List Nat) : List Value := l.map fun (j : Nat) => Value.int .u8 (j : Int)
theorem uR_snoc (l : List Nat) (x : Nat) : uR (l ++ [x]) = uR l ++ [.int .u8 (x : Int)] := by simp [uR]
theorem conv_any {w : World} {B sc n : Nat} {sp : Option Addr} {bs : List Nat} (hn : bs.length = n) (h : OwnsWin w B 5 1 (.slice sp n sc) n (uR bs)) (hb : ∀ x ∈ bs, x < 256) :
    (convert 29 9 (.slice sp n sc)).run Try.prog w = .ok (.string (bOf bs)) w := by
  subst hn
  rcases h.2 with ⟨hv, h0⟩ | ⟨g, off, cap, cur, hv, -⟩
  · obtain rfl := List.eq_nil_of_length_eq_zero h0
    simp only [List.length_nil, Value.slice.injEq, true_and] at hv
    obtain ⟨rfl, rfl⟩ := hv
    exact run_convert_bytes_nil (P := Try.prog) w 29 5 Try.underlying29 Try.underlying5 0 0 9 Try.underlying9
  · cases hv
    have := run_convert_bytes_back (P := Try.prog) w 29 9 5 ⟨g, off, none⟩ sc (bs.map UInt8.ofNat) Try.underlying29 Try.underlying5 Try.underlying9 (fun j hj => by
      have hj' : j < bs.length := by simpa using hj
      obtain ⟨g', off', cap', e, _, _, _, _, hc, _⟩ := h.cells (by omega)
      cases e
      rw [addOf _ _ rfl, hc j (.int .u8 (bs[j] : Int)) (by unfold uR; rw [List.getElem?_map, List.getElem?_eq_getElem hj']; rfl)]
      have := hb _ (List.getElem_mem hj')
      simp only [List.getElem_map, UInt8.toNat_ofNat', Option.some.injEq, Value.int.injEq, true_and]
      omega)
    rw [List.length_map] at this
    exact this

def lenOf (v : Value) : Nat := match v with | .slice _ n _ => n | _ => 0

/-- Between two rounds. -/
structure NS (w : World) (rb : Nat) (p : Option Addr) (c : Nat) (l : List Nat) (k : Nat) (acc : List Nat) (v : Value) (W : World) : Prop where
  row : ∃ sp cap, v = .slice sp acc.length cap ∧ OwnsWin W w.heap.size 5 1 (.slice sp acc.length cap) acc.length (uR acc)
  rd : Rd W rb p c l (k + acc.length)
  fr : Fr (fun j => j = rb) w W
  tw : acc ++ (l.drop (k + acc.length)).takeWhile letN = (l.drop k).takeWhile letN
  lt : ∀ x ∈ acc, x < 256
  le : k + acc.length ≤ l.length

theorem NS.next {w w3 : World} {rb : Nat} {p s3 : Option Addr} {c c3 n k x : Nat} {l acc : List Nat} {z : Int} (hn : acc.length = n) (hF : Fr (fun j => j = rb) w w3) (O3 : OwnsWin w3 w.heap.size 5 1 (.slice s3 (n + 1) c3) (n + 1) (uR acc ++ [.int .u8 (x : Int)])) (R3 : Rd w3 rb p c l (k + n))
    (htw : (acc ++ [x]) ++ (l.drop (k + (n + 1))).takeWhile letN = (l.drop k).takeWhile letN) (hlt : ∀ y ∈ acc ++ [x], y < 256) (hle : k + n < l.length) (hz : z = ((k + (n + 1) : Nat) : Int)) :
    NS w rb p c l k (acc ++ [x]) (.slice s3 (n + 1) c3) (w3.setCell ⟨rb, 1, none⟩ (.int .i64 z)) := by
  obtain ⟨R4, f4⟩ := R3.set z (k + (n + 1)) hz
  have hl : (acc ++ [x]).length = n + 1 := by simp [hn]
  have hne := O3.ne R3.b (by intro c; simp)
  refine ⟨⟨s3, c3, by rw [hl], ?_⟩, by rw [hl]; exact R4, hF.step f4 (fun i e => .inl e), by rw [hl]; exact htw, hlt, by rw [hl]; omega⟩
  rw [hl, uR_snoc]
  exact O3.fr f4 (fun j e h => hne (by rw [e, h]))

set_option maxRecDepth 100000 in
set_option maxHeartbeats 4000000 in
theorem name_any (w : World) (rb : Nat) (p : Option Addr) (c : Nat) (l : List Nat) (k : Nat) (h : Rd w rb p c l k) (ho : Okl l) (hl : l.length ≤ 100000) (hk : k ≤ l.length) :
    Calls Try.prog 50 #[.pointer (some ⟨rb, 0, none⟩)] w fun e w' => e = .returned (.string (bOf ((l.drop k).takeWhile letN))) ∧ Rd w' rb p c l (k + ((l.drop k).takeWhile letN).length) ∧ Fr (fun j => j = rb) w w' := by
  have H := Lib.hid h
  have HO := Lib.hid ho
  have hrb := ltOf h.b
  have HG := Lib.hid (show ∀ g off, p = some ⟨g, off, none⟩ → l ≠ [] → g < w.heap.size from fun g off hp hn => by
    cases l with
    | nil => exact absurd rfl hn
    | cons x r =>
      obtain ⟨g', off', hp', hg, _⟩ := h.r 0 (x : Int) rfl
      rw [hp] at hp'
      cases hp'
      exact hg)
  clear h ho
  obtain ⟨T, hT⟩ : ∃ T, (l.drop k).takeWhile letN = T := ⟨_, rfl⟩
  rw [hT]
  have HT := Lib.hid hT
  clear hT
  go_enter Try.func50, Try.ntmps50
  go_wp2_with fail
  go_loopw [3] (fun v wr => ∃ (acc : List Nat), Hid (NS w rb p c l k acc v wr)) (fun v _ => l.length - lenOf v)
  case atStart => exact ⟨[], Lib.hid ⟨⟨none, 0, rfl, OwnsWin.nil _ _ _ _⟩, by simpa using H.out, Fr.refl _ _, by simp, by simp, by simpa using hk⟩⟩
  case round =>
    obtain ⟨acc, hN⟩ := hrel
    obtain ⟨⟨sp, cap, rfl, hO⟩, hR, hF, htw, hlt, hle⟩ := hN.out
    have HOW := Lib.hid hO
    have HRD := Lib.hid hR
    have HF := Lib.hid hF
    have HTW := Lib.hid htw
    have HLT := Lib.hid hlt
    clear hO hR hF htw hlt hN
    obtain ⟨n, hn⟩ : ∃ n, acc.length = n := ⟨_, rfl⟩
    rw [hn] at HOW HRD HTW hle ⊢
    have SE := Lib.hid (see0_any wr rb p c l (k + n) HRD.out HO.out (by omega))
    have hz := seeV_ok HO.out (k + n)
    have NP := Lib.hid (namePoint_any (seeV l (k + n)) hz)
    cases hx : l[k + n]? with
    | some x =>
      rw [seeV_some hx] at SE NP hz
      by_cases hlet : letN x = true
      · have q0 : letZ (x : Int) = true := by rw [letZ_of, hlet]
        rw [q0] at NP
        have hx127 : x ≤ 127 := by unfold okZ at hz; omega
        have hkn : k + n < l.length := (List.getElem?_eq_some_iff.1 hx).1
        have HTW2 := Lib.hid (show (acc ++ [x]) ++ (l.drop (k + (n + 1))).takeWhile letN = (l.drop k).takeWhile letN by
          rw [← HTW.out, tw_at hx hlet, List.append_assoc]; rfl)
        have HLT2 := Lib.hid (show ∀ y ∈ acc ++ [x], y < 256 from fun y hy => by
          rcases List.mem_append.1 hy with h | h
          · exact HLT.out y h
          · rw [List.mem_singleton.1 h]; omega)
        clear hx hz q0 hlet
        go_wp2_with (first
          | (go_at_call 43; refine SE.out.mono ?_; rintro e w1 ⟨rfl, f1⟩; have F1 := Lib.hid f1; clear f1)
          | (go_at_call 48; refine (NP.out _).mono ?_; rintro e w' ⟨rfl, rfl⟩)
          | (go_at_call 64; refine (put_any _ w.heap.size n cap sp (uR acc) x (HOW.out.fr F1.out (by simp)) hx127 (by omega) (Nat.le_trans HF.out.size F1.out.size)).mono ?_; rintro e w3 ⟨s3, c3, rfl, o3, f3⟩; have O3 := Lib.hid o3; have F3 := Lib.hid f3; have HRD3 := Lib.hid ((HRD.out.fr F1.out).step f3 (fun e => by have := ((HOW.out.fr F1.out (by simp)).lt _ e).1; omega) (fun g off hp hne e => by have := ((HOW.out.fr F1.out (by simp)).lt _ e).1; have := HG.out g off hp hne; omega)); have b1 := cellOf HRD3.out.b 1; have z1 := frozenOf HRD3.out.b 1; simp at b1; clear o3 f3))
        have HFW := Lib.hid ((HF.out.step F1.out (fun _ e => e.elim)).step F3.out (fun i e => .inr ((HOW.out.fr F1.out (by simp)).lt _ e).1))
        go_roundw
        case rel => exact ⟨acc ++ [x], Lib.hid (NS.next hn HFW.out O3.out HRD3.out HTW2.out HLT2.out hkn (by omega))⟩
        case measure => show l.length - (n + 1) < l.length - n; omega
      · have q0 : letZ (x : Int) = false := by rw [letZ_of]; simpa using hlet
        rw [q0] at NP
        have HTE := Lib.hid (show acc = T by
          have h1 := HTW.out
          rw [(dw_stop (p := letN) (k := k + n) (fun c' hc' => by rw [hx] at hc'; cases hc'; simpa using hlet)).2, List.append_nil, HT.out] at h1
          exact h1)
        clear hx hz q0 hlet
        have EA := Lib.hid (show ∀ W, Fr (fun _ => False) wr W → Calls Try.prog 49 #[.pointer (some ⟨rb, 0, none⟩), .int .i64 0] W fun e w' => e = .returned (.bool false) ∧ Fr (fun _ => False) W w' from fun W f => escape0_any W rb p c l (k + n) (HRD.out.fr f) HO.out (by omega))
        go_wp2_with (first
          | (go_at_call 43; refine SE.out.mono ?_; rintro e w1 ⟨rfl, f1⟩; have F1 := Lib.hid f1; clear f1)
          | (go_at_call 48; refine (NP.out _).mono ?_; rintro e w' ⟨rfl, rfl⟩)
          | (go_at_call 49; refine (EA.out _ F1.out).mono ?_; rintro e w2 ⟨rfl, f2⟩; have F2 := Lib.hid (F1.out.trans f2); have kb := conv_any hn (HOW.out.fr F2.out (by simp)) HLT.out; clear f2))
        go_ret
        exact ⟨by rw [← HTE.out]; rfl, by rw [← HTE.out, hn]; exact HRD.out.fr F2.out, HF.out.step F2.out (fun _ e => e.elim)⟩
    | none =>
      rw [show seeV l (k + n) = -1 by unfold seeV; rw [hx]] at SE NP hz
      rw [show letZ (-1) = false from rfl] at NP
      have HTE := Lib.hid (show acc = T by
        have h1 := HTW.out
        rw [(dw_stop (p := letN) (k := k + n) (fun c' hc' => by rw [hx] at hc'; cases hc')).2, List.append_nil, HT.out] at h1
        exact h1)
      clear hx hz
      have EA := Lib.hid (show ∀ W, Fr (fun _ => False) wr W → Calls Try.prog 49 #[.pointer (some ⟨rb, 0, none⟩), .int .i64 0] W fun e w' => e = .returned (.bool false) ∧ Fr (fun _ => False) W w' from fun W f => escape0_any W rb p c l (k + n) (HRD.out.fr f) HO.out (by omega))
      go_wp2_with (first
        | (go_at_call 43; refine SE.out.mono ?_; rintro e w1 ⟨rfl, f1⟩; have F1 := Lib.hid f1; clear f1)
        | (go_at_call 48; refine (NP.out _).mono ?_; rintro e w' ⟨rfl, rfl⟩)
        | (go_at_call 49; refine (EA.out _ F1.out).mono ?_; rintro e w2 ⟨rfl, f2⟩; have F2 := Lib.hid (F1.out.trans f2); have kb := conv_any hn (HOW.out.fr F2.out (by simp)) HLT.out; clear f2))
      go_ret
      exact ⟨by rw [← HTE.out]; rfl, by rw [← HTE.out, hn]; exact HRD.out.fr F2.out, HF.out.step F2.out (fun _ e => e.elim)⟩
end Go.Proofs.Ytknpdkfjmhpbpaa
