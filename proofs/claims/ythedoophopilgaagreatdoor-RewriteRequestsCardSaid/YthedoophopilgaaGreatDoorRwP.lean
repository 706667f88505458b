/- Plain: fields as pairs of texts; what Hops leaves. (printed) -/
import Derived.Test.YthedoophopilgaaGreatDoorRwO
namespace Go.Proofs.YthedoophopilgaaGreatDoor.Rw
open Go.RowKit Go.Proofs.YthedoophopilgaaGreatDoor.Oct
set_option linter.unusedVariables false
abbrev Fld := ByteArray × ByteArray
def isF (f : Fld) (n : ByteArray) : Bool := decide (lowerS f.1 = lowerS n)
def allF (l : List Fld) (n : ByteArray) : List ByteArray := (l.filter (fun f => isF f n)).map Prod.snd
def dropF (l : List Fld) (ns : List ByteArray) : List Fld := l.filter (fun f => !(ns.any (isF f)))
def tokF (l : List Fld) (n : ByteArray) : List ByteArray := (listS (allF l n)).map lowerS
def hostS : ByteArray := ⟨#[104, 111, 115, 116]⟩
def clenS : ByteArray := ⟨#[99, 111, 110, 116, 101, 110, 116, 45, 108, 101, 110, 103, 116, 104]⟩
def connS : ByteArray := ⟨#[67, 111, 110, 110, 101, 99, 116, 105, 111, 110]⟩
def connL : ByteArray := ⟨#[99, 111, 110, 110, 101, 99, 116, 105, 111, 110]⟩
def keptB (t : ByteArray) : Bool := decide (t = hostS) || decide (t = clenS)
def hopN : List ByteArray := [⟨#[67, 111, 110, 110, 101, 99, 116, 105, 111, 110]⟩, ⟨#[75, 101, 101, 112, 45, 65, 108, 105, 118, 101]⟩, ⟨#[80, 114, 111, 120, 121, 45, 67, 111, 110, 110, 101, 99, 116, 105, 111, 110]⟩, ⟨#[80, 114, 111, 120, 121, 45, 65, 117, 116, 104, 101, 110, 116, 105, 99, 97, 116, 101]⟩, ⟨#[80, 114, 111, 120, 121, 45, 65, 117, 116, 104, 111, 114, 105, 122, 97, 116, 105, 111, 110]⟩, ⟨#[84, 69]⟩, ⟨#[84, 114, 97, 105, 108, 101, 114]⟩, ⟨#[84, 114, 97, 110, 115, 102, 101, 114, 45, 69, 110, 99, 111, 100, 105, 110, 103]⟩, ⟨#[85, 112, 103, 114, 97, 100, 101]⟩]
def hopL : List ByteArray := [⟨#[99, 111, 110, 110, 101, 99, 116, 105, 111, 110]⟩, ⟨#[107, 101, 101, 112, 45, 97, 108, 105, 118, 101]⟩, ⟨#[112, 114, 111, 120, 121, 45, 99, 111, 110, 110, 101, 99, 116, 105, 111, 110]⟩, ⟨#[112, 114, 111, 120, 121, 45, 97, 117, 116, 104, 101, 110, 116, 105, 99, 97, 116, 101]⟩, ⟨#[112, 114, 111, 120, 121, 45, 97, 117, 116, 104, 111, 114, 105, 122, 97, 116, 105, 111, 110]⟩, ⟨#[116, 101]⟩, ⟨#[116, 114, 97, 105, 108, 101, 114]⟩, ⟨#[116, 114, 97, 110, 115, 102, 101, 114, 45, 101, 110, 99, 111, 100, 105, 110, 103]⟩, ⟨#[117, 112, 103, 114, 97, 100, 101]⟩]
def namedP (l : List Fld) : List ByteArray := (tokF l connS).filter (fun t => !keptB t)
/-- What the program leaves. -/
def hopsP (l : List Fld) : List Fld := dropF (dropF l hopN) (namedP l)
/-- Is a name hop by hop (the document's)? -/
def hopB (n : ByteArray) (ts : List ByteArray) : Bool := hopL.any (fun h => decide (lowerS n = h)) || ts.any (fun t => decide (lowerS n = t) && !keptB t)
def hopsR (l : List Fld) : List Fld := l.filter (fun f => !hopB f.1 (tokF l connL))
theorem low_conn : lowerS connS = lowerS connL := by decide +kernel
theorem hopN_low : hopN.map lowerS = hopL := by decide +kernel
theorem all_low {l : List Fld} {a b : ByteArray} (h : lowerS a = lowerS b) : allF l a = allF l b := by
  unfold allF isF; rw [h]
theorem tok_low {l : List Fld} {a b : ByteArray} (h : lowerS a = lowerS b) : tokF l a = tokF l b := by
  unfold tokF; rw [all_low h]
theorem any_hopN (f : Fld) : hopN.any (isF f) = hopL.any (fun h => decide (lowerS f.1 = h)) := by
  rw [← hopN_low, List.any_map]; rfl
theorem named_any (l : List Fld) (f : Fld) : (namedP l).any (isF f) = (tokF l connL).any (fun t => decide (lowerS f.1 = t) && !keptB t) := by
  unfold namedP
  rw [tok_low low_conn, Bool.eq_iff_iff, List.any_eq_true, List.any_eq_true]
  constructor
  · rintro ⟨t, ht, hf⟩
    obtain ⟨h1, h2⟩ := List.mem_filter.1 ht
    obtain ⟨x, _, rfl⟩ := List.mem_map.1 h1
    unfold isF at hf
    rw [lowerS_idem] at hf
    exact ⟨_, h1, by rw [hf, h2]; rfl⟩
  · rintro ⟨t, ht, hf⟩
    rw [Bool.and_eq_true] at hf
    obtain ⟨x, _, rfl⟩ := List.mem_map.1 ht
    refine ⟨_, List.mem_filter.2 ⟨ht, hf.2⟩, ?_⟩
    unfold isF
    rw [lowerS_idem]
    exact hf.1
theorem hops_eq (l : List Fld) : hopsP l = hopsR l := by
  unfold hopsP hopsR dropF
  rw [List.filter_filter]
  congr 1
  funext f
  rw [named_any, any_hopN, hopB, Bool.not_or, Bool.and_comm]
end Go.Proofs.YthedoophopilgaaGreatDoor.Rw
