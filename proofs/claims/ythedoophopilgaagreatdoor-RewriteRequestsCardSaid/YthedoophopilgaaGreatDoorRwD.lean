/- The document's Hop and Hops. -/
import Derived.Test.YthedoophopilgaaGreatDoorRwC
namespace Go.Proofs.YthedoophopilgaaGreatDoor.Rw
open Go.RowKit Go.Proofs.YthedoophopilgaaGreatDoor.Oct
set_option linter.unusedVariables false
theorem lit_new (w : World) : ∀ j x, hopL[j]? = some x → (w.alloc (.cells (hopL.map Value.string).toArray 9)).cell? ⟨w.heap.size, j, none⟩ = some (.string x) := by
  intro j x hj
  rw [cell_of_row _ w.heap.size j _ _ (0, 0) (heap_alloc_new w _)]
  rw [List.getElem?_toArray, List.getElem?_map, hj]; rfl
theorem any_no {ts : List ByteArray} {p : ByteArray → Bool} (h : ∀ j x, j < ts.length → ts[j]? = some x → p x = false) : ts.any p = false := by
  rw [List.any_eq_false]
  intro x hx
  obtain ⟨j, hj, rfl⟩ := List.mem_iff_getElem.1 hx
  simp [h j _ hj (List.getElem?_eq_getElem hj)]
theorem any_yes {ts : List ByteArray} {p : ByteArray → Bool} {k : Nat} {x : ByteArray} (hk : ts[k]? = some x) (h : p x = true) : ts.any p = true :=
  List.any_eq_true.2 ⟨x, List.mem_of_getElem? hk, h⟩
theorem step_no {ts : List ByteArray} {p : ByteArray → Bool} {k : Nat} {x : ByteArray} (hk : ts[k]? = some x) (hp : p x = false) (h : Hid (∀ j y, j < k → ts[j]? = some y → p y = false)) : Hid (∀ j y, j < k + 1 → ts[j]? = some y → p y = false) := by
  intro j y hj hy
  rcases Nat.lt_or_ge j k with h1 | h1
  · exact h j y h1 hy
  · obtain rfl : j = k := by omega
    rw [hk] at hy; cases hy; exact hp
theorem lit_host (t : ByteArray) : (t.toList == [104, 111, 115, 116]) = decide (t = hostS) := by
  rw [← str_eq, show hostS.toList = [104, 111, 115, 116] by rw [Lib.toList_data]; rfl]
theorem lit_clen (t : ByteArray) : (t.toList == [99, 111, 110, 116, 101, 110, 116, 45, 108, 101, 110, 103, 116, 104]) = decide (t = clenS) := by
  rw [← str_eq, show clenS.toList = [99, 111, 110, 116, 101, 110, 116, 45, 108, 101, 110, 103, 116, 104] by rw [Lib.toList_data]; rfl]
set_option maxRecDepth 100000 in
set_option maxHeartbeats 4000000 in
theorem hop_any (nm : ByteArray) (hn : nm.size ≤ 1099511627776) (ts : List ByteArray) (v : Value) (w : World) (hv : Strs w v ts) (hN : ts.length ≤ 1000000) :
    Calls Tryz.prog 36 #[.string nm, v] w fun e w' => e = .returned (.bool (hopB nm ts)) ∧ Below w.heap.size w w' := by
  have dL := fun W => refLower_any nm hn W
  have hH := Lib.hid (show hopB nm ts = (hopL.any (fun h => decide (lowerS nm = h)) || ts.any (fun t => decide (lowerS nm = t) && !keptB t)) from rfl)
  generalize lowerS nm = low at *
  go_enter Tryz.func36, Tryz.ntmps36
  go_wp2_with (go_at_call 54; (with_reducible refine (dL _).mono ?_); rintro e w1 ⟨rfl, hb1⟩; have hlit := lit_new w1; have hbA := hb1.alloc hb1.size (.cells (hopL.map Value.string).toArray 9); have hv1 := hv.below hbA; replace hb1 := Lib.hid hb1)
  rw [show (hopL.map Value.string).toArray = #[.string ⟨#[99, 111, 110, 110, 101, 99, 116, 105, 111, 110]⟩, .string ⟨#[107, 101, 101, 112, 45, 97, 108, 105, 118, 101]⟩, .string ⟨#[112, 114, 111, 120, 121, 45, 99, 111, 110, 110, 101, 99, 116, 105, 111, 110]⟩, .string ⟨#[112, 114, 111, 120, 121, 45, 97, 117, 116, 104, 101, 110, 116, 105, 99, 97, 116, 101]⟩, .string ⟨#[112, 114, 111, 120, 121, 45, 97, 117, 116, 104, 111, 114, 105, 122, 97, 116, 105, 111, 110]⟩, .string ⟨#[116, 101]⟩, .string ⟨#[116, 114, 97, 105, 108, 101, 114]⟩, .string ⟨#[116, 114, 97, 110, 115, 102, 101, 114, 45, 101, 110, 99, 111, 100, 105, 110, 103]⟩, .string ⟨#[117, 112, 103, 114, 97, 100, 101]⟩] from rfl] at hlit hbA hv1
  generalize w1.alloc _ = W2 at *
  have hw1 : w1.heap.size < W2.heap.size := World.block_lt_of_cell? W2 ⟨w1.heap.size, 0, none⟩ (hlit 0 _ rfl)
  generalize w1.heap.size = q at *
  have hlit' := Lib.hid hlit
  clear hlit hb1 hv dL
  go_loop [14] (fun i => ∃ k : Nat, k ≤ 9 ∧ i = .int .i64 k ∧ Hid (∀ j y, j < k → hopL[j]? = some y → decide (low = y) = false)) (fun i => 9 - (intOf i).toNat)
  case atStart => exact ⟨0, Nat.zero_le _, rfl, Lib.hid (fun j y h => by omega)⟩
  case round =>
    obtain ⟨k, hk, rfl, hno⟩ := hrel
    by_cases c1 : k < 9
    · obtain ⟨x, hx⟩ : ∃ x, hopL[k]? = some x := ⟨_, List.getElem?_eq_getElem (by show k < 9; exact c1)⟩
      have hc := hlit'.out k x hx
      have hxh := Lib.hid hx
      have ht := str_eq low x
      clear hx
      cases hd : decide (low = x) with
      | true =>
        rw [hd] at ht
        have hY := Lib.hid (show hopB nm ts = true by rw [hH.out, any_yes hxh.out hd]; rfl)
        clear hd
        go_wp2
        go_ret
        exact ⟨ret_bool hY.out.symm, hbA⟩
      | false =>
        rw [hd] at ht
        have hn2 := step_no hxh.out hd hno
        clear hd
        go_wp2
        go_round
        case rel => exact ⟨k + 1, by omega, by go_num, hn2⟩
        case measure => simp [intOf]; omega
    · have hk9 : k = 9 := by omega
      subst hk9
      have hF := Lib.hid (show hopL.any (fun h => decide (low = h)) = false from any_no (fun j x hj hx => hno.out j x hj hx))
      obtain ⟨A, c, rfl, hc, hr⟩ := hv1
      go_wp2
      go_loop [24] (fun i => ∃ k : Nat, k ≤ ts.length ∧ i = .int .i64 k ∧ Hid (∀ j y, j < k → ts[j]? = some y → (decide (low = y) && !keptB y) = false)) (fun i => ts.length - (intOf i).toNat)
      case atStart => exact ⟨0, Nat.zero_le _, rfl, Lib.hid (fun j y h => by omega)⟩
      case round =>
        obtain ⟨k, hk, rfl, hno⟩ := hrel
        by_cases c2 : k < ts.length
        · obtain ⟨b, o, rfl, hlt, hx⟩ := hr (by omega)
          have hc := hx k ts[k] (by simp [c2])
          have hxk : ts[k]? = some ts[k] := List.getElem?_eq_getElem c2
          have hxh := Lib.hid hxk
          generalize ts[k] = x at *
          have ht := str_eq low x
          have h1 := lit_host x
          have h2 := lit_clen x
          have hK := Lib.hid (show keptB x = (decide (x = hostS) || decide (x = clenS)) from rfl)
          clear hxk hx
          cases hd : decide (low = x) with
          | false =>
            rw [hd] at ht
            have hn2 := step_no (p := fun y => decide (low = y) && !keptB y) hxh.out (by show (decide (low = x) && _) = false; rw [hd]; rfl) hno
            clear hd h1 h2
            go_wp2
            go_round
            case rel => exact ⟨k + 1, by omega, by go_num, hn2⟩
            case measure => simp [intOf]; omega
          | true =>
            rw [hd] at ht
            cases e1 : decide (x = hostS) with
            | true =>
              rw [e1] at h1
              have hn2 := step_no (p := fun y => decide (low = y) && !keptB y) hxh.out (by show (_ && !keptB x) = false; rw [hK.out, e1]; simp) hno
              clear hd h2 e1
              go_wp2
              go_round
              case rel => exact ⟨k + 1, by omega, by go_num, hn2⟩
              case measure => simp [intOf]; omega
            | false =>
              rw [e1] at h1
              cases e2 : decide (x = clenS) with
              | true =>
                rw [e2] at h2
                have hn2 := step_no (p := fun y => decide (low = y) && !keptB y) hxh.out (by show (_ && !keptB x) = false; rw [hK.out, e1, e2]; simp) hno
                clear hd e1 e2
                go_wp2
                go_round
                case rel => exact ⟨k + 1, by omega, by go_num, hn2⟩
                case measure => simp [intOf]; omega
              | false =>
                rw [e2] at h2
                have hY := Lib.hid (show hopB nm ts = true by rw [hH.out, any_yes (p := fun t => decide (low = t) && !keptB t) hxh.out (by show (decide (low = x) && !keptB x) = true; rw [hd, hK.out, e1, e2]; rfl), Bool.or_true])
                clear hd e1 e2
                go_wp2
                go_ret
                exact ⟨ret_bool hY.out.symm, hbA⟩
        · have hY := Lib.hid (show hopB nm ts = false by rw [hH.out, hF.out, any_no (p := fun t => decide (low = t) && !keptB t) (fun j x hj hx => hno.out j x (by omega) hx)]; rfl)
          go_wp2
          go_ret
          exact ⟨ret_bool hY.out.symm, hbA⟩
end Go.Proofs.YthedoophopilgaaGreatDoor.Rw
