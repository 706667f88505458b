/- Plain: Set, and what goes to a backend. -/
import Derived.Test.YthedoophopilgaaGreatDoorRwL
namespace Go.Proofs.YthedoophopilgaaGreatDoor.Rw
open Go.RowKit Go.Proofs.YthedoophopilgaaGreatDoor.Oct
set_option linter.unusedVariables false
/-- The program's Set: the first one's place, without those behind. -/
def setP (l : List Fld) (nm val : ByteArray) : List Fld :=
  if l.any (fun f => isF f nm) = true then l.takeWhile (fun f => !isF f nm) ++ (nm, val) :: dropF (l.drop ((l.takeWhile (fun f => !isF f nm)).length + 1)) [nm] else l ++ [(nm, val)]
/-- The document's Set. -/
def setGo (nm val : ByteArray) : Bool → List Fld → List Fld
  | _, [] => []
  | d, f :: l => if isF f nm = true then (if d = true then setGo nm val d l else (nm, val) :: setGo nm val true l) else f :: setGo nm val d l
def setR (l : List Fld) (nm val : ByteArray) : List Fld := setGo nm val false l ++ (if l.any (fun f => isF f nm) = true then [] else [(nm, val)])
theorem drop_one (l : List Fld) (nm : ByteArray) : dropF l [nm] = l.filter (fun f => !isF f nm) := by
  unfold dropF; congr 1; funext f; simp
theorem setGo_true (nm val : ByteArray) : ∀ l, setGo nm val true l = l.filter (fun f => !isF f nm)
  | [] => rfl
  | f :: l => by
    unfold setGo
    cases h : isF f nm
    · simp [h, setGo_true nm val l]
    · simp [h, setGo_true nm val l]
theorem set_eq (nm val : ByteArray) : ∀ l : List Fld, setR l nm val = setP l nm val := by
  intro l
  unfold setR setP
  cases ha : l.any (fun f => isF f nm) with
  | false =>
    simp
    induction l with
    | nil => rfl
    | cons f l ih =>
      rw [List.any_cons, Bool.or_eq_false_iff] at ha
      unfold setGo
      simp [ha.1, ih ha.2]
  | true =>
    simp
    rw [drop_one]
    induction l with
    | nil => simp at ha
    | cons f l ih =>
      unfold setGo
      cases h : isF f nm with
      | true => simp [h, setGo_true]
      | false =>
        rw [List.any_cons, h, Bool.false_or] at ha
        simp [h, ih ha]
theorem setP_low {nm nm' : ByteArray} (l : List Fld) (val : ByteArray) : (setP l nm val).length ≤ l.length + 1 := by
  unfold setP
  split
  · rw [List.length_append, List.length_cons]
    have h1 := drop_le (l.drop ((l.takeWhile (fun f => !isF f nm)).length + 1)) [nm]
    rw [List.length_drop] at h1
    have h2 := (List.takeWhile_sublist (l := l) (fun f => !isF f nm)).length_le
    omega
  · simp
theorem setP_mem {l : List Fld} {nm val : ByteArray} {x : Fld} (h : x ∈ setP l nm val) : x ∈ l ∨ x = (nm, val) := by
  unfold setP at h
  split at h
  · rcases List.mem_append.1 h with h | h
    · exact .inl ((List.takeWhile_sublist _).mem h)
    · rcases List.mem_cons.1 h with h | h
      · exact .inr h
      · exact .inl (List.mem_of_mem_drop (drop_mem h))
  · rcases List.mem_append.1 h with h | h
    · exact .inl h
    · exact .inr (List.mem_singleton.1 h)
def xffS : ByteArray := ⟨#[88, 45, 70, 111, 114, 119, 97, 114, 100, 101, 100, 45, 70, 111, 114]⟩
def xffL : ByteArray := ⟨#[120, 45, 102, 111, 114, 119, 97, 114, 100, 101, 100, 45, 102, 111, 114]⟩
def viaS : ByteArray := ⟨#[86, 105, 97]⟩
def viaV : ByteArray := ⟨#[49, 46, 49, 32, 115, 116, 101, 119, 97, 114, 100]⟩
theorem low_xff : lowerS xffS = lowerS xffL := by decide +kernel
/-- Those who asked, one after the other. -/
def whoL (vs : List ByteArray) : ByteArray := vs.foldl (fun a v => a ++ (v ++ ⟨#[44, 32]⟩)) ⟨#[]⟩
theorem ba_data_app (a b : ByteArray) : (a ++ b).data.toList = a.data.toList ++ b.data.toList := by
  rw [ByteArray.data_append, Array.toList_append]
theorem who_data : ∀ (vs : List ByteArray) (a : ByteArray), (vs.foldl (fun a v => a ++ (v ++ ⟨#[44, 32]⟩)) a).data.toList = a.data.toList ++ vs.flatMap (fun v => v.data.toList ++ [44, 32])
  | [], a => by simp
  | v :: vs, a => by
    rw [List.foldl_cons, who_data vs, ba_data_app, ba_data_app, List.flatMap_cons]
    simp
theorem join_snoc (c : List UInt8) : ∀ l : List (List UInt8), Lib.join (l ++ [c]) [44, 32] = l.flatMap (fun v => v ++ [44, 32]) ++ c
  | [] => by simp [Lib.join]
  | [x] => by simp [Lib.join]
  | x :: y :: l => by
    have ih := join_snoc c (y :: l)
    rw [List.cons_append] at ih ⊢
    rw [show Lib.join (x :: (y :: l ++ [c])) [44, 32] = x ++ [44, 32] ++ Lib.join (y :: l ++ [c]) [44, 32] from by simp [Lib.join]]
    rw [show y :: l ++ [c] = y :: (l ++ [c]) from rfl, ih]
    simp [List.flatMap_cons]
/-- What stands for who asked. -/
def fwdV (l : List Fld) (cl : ByteArray) : ByteArray := ⟨(Lib.join ((allF l xffS ++ [cl]).map (·.data.toList)) [44, 32]).toArray⟩
theorem fwd_eq (l : List Fld) (cl : ByteArray) : whoL (allF l xffL) ++ cl = fwdV l cl := by
  apply Go.WideShapes.bytes_inj
  unfold fwdV whoL
  rw [ba_data_app, who_data, List.map_append, List.map_cons, List.map_nil, join_snoc, all_low low_xff]
  simp [List.flatMap_map]
/-- The fields that go to a backend. -/
def reqF (l : List Fld) (b cl : ByteArray) (k : Int) : List Fld :=
  if k = 0 then setP (hopsP l) xffS (fwdV (hopsP l) cl) ++ [(viaS, viaV)] else setP (setP (hopsP l) xffS (fwdV (hopsP l) cl) ++ [(viaS, viaV)]) clenN (decS b.size)
def kindR (k : Int) : Int := if k = 0 then k else 1
end Go.Proofs.YthedoophopilgaaGreatDoor.Rw
