/- DeclParse: the walk of the law. No condition. -/
import Derived.Test.YtknpdkfjmhpbpaaRDecls
import Derived.Test.YtknpdkfjmhpbpaaDAlive
import Derived.Test.YtknpdkfjmhpbpaaBlocks
namespace Go.Proofs.Ytknpdkfjmhpbpaa
open Go.RowKit Go.Maps Go.ChangeShapes Go.WideShapes Go.ChangeAt Go.WideMaps Go.WideElems

theorem dparse_own {w W : World} {ts : List Tok} {n c : Nat} {sp : Option Addr} (h : TW w ts (.slice sp n c) W) (hn : ts.length = n) (hz : ∀ x ∈ ts, x.f1.size ≤ maxLen) (hl : n ≤ 100000) : Calls Try.prog 27 #[.slice sp n c] W fun e w' => ∃ v, e = .returned v ∧ RwD W (decV ts 0) v w' := by
  have ho := h.own hn
  have hc := ho.capLe rfl
  subst hn
  exact DParse_any W sp c ts (RdT.win ho hz) hl hc.1 hc.2

set_option maxRecDepth 100000 in
set_option maxHeartbeats 4000000 in
theorem declParse_walk (v : Value) (ts : List Tok) (w : World) (h : IsToks w v ts) :
    Calls Try.prog 10 #[v] w fun e w' => e = .returned (.bool true) ∧ Below w.heap.size w w' := by
  obtain ⟨p, c, rfl, h1, h2, h3⟩ := h
  refine Calls.mono (R := fun e w' => e = .returned (.bool true) ∧ Fr (fun _ => False) w w') ?_ (fun e w' ⟨he, f⟩ => ⟨he, f.below (Nat.le_refl _) (by simp)⟩)
  obtain ⟨i35, ha0, ha1, ha2, ha3⟩ := info_parts info35
  have H := Lib.hid h1
  have HC := Lib.hid h3
  unfold maxLen at h3
  clear h1
  go_enter Try.func10, Try.ntmps10
  go_wp2_with fail
  refine (dalive_any _).mono ?_
  rintro e w1 ⟨rfl, f1⟩
  have F1 := Lib.hid f1
  clear f1
  go_wp2_with fail
  refine (Big_any p c ts w1 (H.out.fr F1.out) (by omega)).mono ?_
  rintro e w' ⟨b, rfl, rfl, hb⟩
  have HB := Lib.hid hb
  clear hb
  cases b with
  | true =>
    go_wp2_with fail
    go_ret
    exact ⟨rfl, F1.out⟩
  | false =>
    obtain ⟨hl, -⟩ := HB.out rfl
    obtain ⟨n, hn⟩ : ∃ n, ts.length = n := ⟨_, rfl⟩
    have HRS := Lib.hid (decV_len ts 0 (Nat.zero_le _))
    have SA := Lib.hid (show SrcW w' 5 p n (tL ts) from by rw [← hn]; exact (H.out.fr F1.out).src)
    have RU := Lib.hid (show ∀ W, Fr (fun _ => False) w' W → Calls Try.prog 28 #[.slice p n c] W fun e w' => ∃ v, e = .returned v ∧ RwD W (decV ts 0) v w' from fun W f => by
      have := Decls_any W p c ts ((H.out.fr F1.out).fr f) (by omega) h2 HC.out; rwa [hn] at this)
    have HZ := Lib.hid H.out.sizes
    obtain ⟨R, hR⟩ : ∃ R, decV ts 0 = R := ⟨_, rfl⟩
    rw [hR] at RU HRS
    have HR := Lib.hid hR
    clear hR
    obtain ⟨nr, hnr⟩ : ∃ nr, R.length = nr := ⟨_, rfl⟩
    rw [hn] at hl h2 ⊢
    go_wp2_with (first
      | (at_builtin; refine wpList_append_src _ rfl (.const (.slice none 0 0)) (.tmp 14) 22 rfl w'.heap.size 35 i35 _ 5 48 Try.underlying22 ha0 ha1 ha2 ha3 rfl (by omega) (.slice none 0 0) 0 [] rfl (OwnsWin.nil _ _ _ _) p n _ (tL ts) rfl SA.out (tL_one_cell ts) (by unfold maxLen; omega) (by omega) (Nat.le_refl _) ?_; intro s1 c1 w2 hown hgrow _; have T1 := Lib.hid (TW.first hn hown hgrow); rw [Nat.zero_add] at T1 ⊢; have PO := Lib.hid (dparse_own T1.out hn HZ.out (by omega)); rw [HR.out] at PO; clear hown hgrow)
      | (go_at_call 27; with_reducible refine PO.out.mono ?_; rintro e w3 ⟨v3, rfl, h3⟩; have F3 := Lib.hid h3.fr; obtain ⟨r3, k3, rfl, hr3⟩ := h3.rd; have R3 := Lib.hid hr3; rw [hnr]; clear h3 hr3)
      | (go_at_call 28; with_reducible refine (RU.out _ (T1.out.fr.trans F3.out)).mono ?_; rintro e w4 ⟨v4, rfl, h4⟩; have F4 := Lib.hid (F3.out.trans h4.fr); have R3' := Lib.hid (R3.out.fr h4.fr); obtain ⟨r4, k4, rfl, hr4⟩ := h4.rd; have R4 := Lib.hid hr4; have SM := Lib.hid (sameD_any r3 r4 k3 k4 R w4 R3'.out R4.out (by have := HRS.out.1; omega) (fun x hx => by have := HRS.out.2 x hx; omega)); rw [hnr] at SM; rw [hnr]; clear h4 hr4)
      | (go_at_call 26; with_reducible refine SM.out.mono ?_; rintro e w5 ⟨rfl, f5⟩; have F5 := Lib.hid (F4.out.trans f5); clear f5))
    go_ret
    exact ⟨rfl, F1.out.trans (T1.out.fr.trans F5.out)⟩
end Go.Proofs.Ytknpdkfjmhpbpaa
