/- The types of the program that are used: data of Lean for data of Go. -/
import Derived.Test.YtbcabikaaadiiaaDoorLuP4
namespace Go.Lu
open Go Go.Proofs
set_option linter.unusedVariables false
set_option maxRecDepth 100000
structure Span where
  Low : Int
  High : Int
  deriving DecidableEq

instance : Rp Span := Rp.of (β := Int × (Int)) fun (s : Span) => (s.Low, s.High)
theorem Span.at_Low {H : Hp} {b o : Nat} {s : Span} (h : PAt H b o s) : PAt (α := Int) H b (o + 0) s.Low := by
  have h : PAt (α := Int × (Int)) H b o (s.Low, s.High) := h
  exact (PAt.fst h)
theorem Span.at_High {H : Hp} {b o : Nat} {s : Span} (h : PAt H b o s) : PAt (α := Int) H b (o + 1) s.High := by
  have h : PAt (α := Int × (Int)) H b o (s.Low, s.High) := h
  exact (PAt.snd h)
theorem Span.put_Low {H : Hp} {fo n : Nat} {ds : List Value} {s : Span} {v : Int} (h : Put (Int) H fo n ds s.Low v) : Put Span H (fo) n ds s ⟨v, s.High⟩ := by
  have h' : Put (Int × (Int)) H (fo) n ds (s.Low, s.High) (v, s.High) := Put.fst h
  exact ⟨h'.le, h'.len, h'.put⟩
theorem Span.put_High {H : Hp} {fo n : Nat} {ds : List Value} {s : Span} {v : Int} (h : Put (Int) H fo n ds s.High v) : Put Span H (Rp.sz (Int) + (fo)) n ds s ⟨s.Low, v⟩ := by
  have h' : Put (Int × (Int)) H (Rp.sz (Int) + (fo)) n ds (s.Low, s.High) (s.Low, v) := Put.snd (h)
  exact ⟨h'.le, h'.len, h'.put⟩
abbrev Span.cells (s : Span) : List Value := [.int .i64 s.Low, .int .i64 s.High]
theorem Span.rep_mk (H : Hp) (s : Span) : Rp.rep H s.cells s := ⟨_, _, rfl, rfl, rfl⟩
theorem Span.rep_eq {H : Hp} {cs : List Value} {s : Span} (h : Rp.rep H cs s) : cs = s.cells := by
  obtain ⟨_, _, rfl, rfl, rfl⟩ := h
  rfl

structure TunnelPart where
  Heat : List Int
  Damp : Span
  deriving DecidableEq

instance : Rp TunnelPart := Rp.of (β := (Arr 4 Int) × (Span)) fun (s : TunnelPart) => (s.Heat, s.Damp)
theorem TunnelPart.at_Heat {H : Hp} {b o : Nat} {s : TunnelPart} (h : PAt H b o s) : PAt (α := Arr 4 Int) H b (o + 0) s.Heat := by
  have h : PAt (α := (Arr 4 Int) × (Span)) H b o (s.Heat, s.Damp) := h
  exact (PAt.fst h)
theorem TunnelPart.at_Damp {H : Hp} {b o : Nat} {s : TunnelPart} (h : PAt H b o s) : PAt (α := Span) H b (o + 4) s.Damp := by
  have h : PAt (α := (Arr 4 Int) × (Span)) H b o (s.Heat, s.Damp) := h
  exact (PAt.snd h)
theorem TunnelPart.put_Heat {H : Hp} {fo n : Nat} {ds : List Value} {s : TunnelPart} {v : List Int} (h : Put (Arr 4 Int) H fo n ds s.Heat v) : Put TunnelPart H (fo) n ds s ⟨v, s.Damp⟩ := by
  have h' : Put ((Arr 4 Int) × (Span)) H (fo) n ds (s.Heat, s.Damp) (v, s.Damp) := Put.fst h
  exact ⟨h'.le, h'.len, h'.put⟩
theorem TunnelPart.put_Damp {H : Hp} {fo n : Nat} {ds : List Value} {s : TunnelPart} {v : Span} (h : Put (Span) H fo n ds s.Damp v) : Put TunnelPart H (Rp.sz (Arr 4 Int) + (fo)) n ds s ⟨s.Heat, v⟩ := by
  have h' : Put ((Arr 4 Int) × (Span)) H (Rp.sz (Arr 4 Int) + (fo)) n ds (s.Heat, s.Damp) (s.Heat, v) := Put.snd (h)
  exact ⟨h'.le, h'.len, h'.put⟩

structure TunnelFrame where
  Stay : List Int
  Need : Span
  deriving DecidableEq

instance : Rp TunnelFrame := Rp.of (β := (List Int) × (Span)) fun (s : TunnelFrame) => (s.Stay, s.Need)
theorem TunnelFrame.at_Stay {H : Hp} {b o : Nat} {s : TunnelFrame} (h : PAt H b o s) : PAt (α := List Int) H b (o + 0) s.Stay := by
  have h : PAt (α := (List Int) × (Span)) H b o (s.Stay, s.Need) := h
  exact (PAt.fst h)
theorem TunnelFrame.at_Need {H : Hp} {b o : Nat} {s : TunnelFrame} (h : PAt H b o s) : PAt (α := Span) H b (o + 1) s.Need := by
  have h : PAt (α := (List Int) × (Span)) H b o (s.Stay, s.Need) := h
  exact (PAt.snd h)
theorem TunnelFrame.put_Stay {H : Hp} {fo n : Nat} {ds : List Value} {s : TunnelFrame} {v : List Int} (h : Put (List Int) H fo n ds s.Stay v) : Put TunnelFrame H (fo) n ds s ⟨v, s.Need⟩ := by
  have h' : Put ((List Int) × (Span)) H (fo) n ds (s.Stay, s.Need) (v, s.Need) := Put.fst h
  exact ⟨h'.le, h'.len, h'.put⟩
theorem TunnelFrame.put_Need {H : Hp} {fo n : Nat} {ds : List Value} {s : TunnelFrame} {v : Span} (h : Put (Span) H fo n ds s.Need v) : Put TunnelFrame H (Rp.sz (List Int) + (fo)) n ds s ⟨s.Stay, v⟩ := by
  have h' : Put ((List Int) × (Span)) H (Rp.sz (List Int) + (fo)) n ds (s.Stay, s.Need) (s.Stay, v) := Put.snd (h)
  exact ⟨h'.le, h'.len, h'.put⟩
theorem TunnelFrame.opened {H : Hp} {cs : List Value} {s : TunnelFrame} (h : Rp.rep H cs s) : ∃ v0, cs = [v0, .int .i64 s.Need.Low, .int .i64 s.Need.High] ∧ Sl (α := Int) H v0 s.Stay := by
  obtain ⟨_, _, rfl, ⟨v0, rfl, hv0⟩, ⟨_, _, rfl, rfl, rfl⟩⟩ := h
  exact ⟨v0, rfl, hv0⟩

structure TunnelBook where
  Parts : List TunnelPart
  Frames : List TunnelFrame
  deriving DecidableEq

instance : Rp TunnelBook := Rp.of (β := (List TunnelPart) × (List TunnelFrame)) fun (s : TunnelBook) => (s.Parts, s.Frames)
theorem TunnelBook.at_Parts {H : Hp} {b o : Nat} {s : TunnelBook} (h : PAt H b o s) : PAt (α := List TunnelPart) H b (o + 0) s.Parts := by
  have h : PAt (α := (List TunnelPart) × (List TunnelFrame)) H b o (s.Parts, s.Frames) := h
  exact (PAt.fst h)
theorem TunnelBook.at_Frames {H : Hp} {b o : Nat} {s : TunnelBook} (h : PAt H b o s) : PAt (α := List TunnelFrame) H b (o + 1) s.Frames := by
  have h : PAt (α := (List TunnelPart) × (List TunnelFrame)) H b o (s.Parts, s.Frames) := h
  exact (PAt.snd h)
theorem TunnelBook.put_Parts {H : Hp} {fo n : Nat} {ds : List Value} {s : TunnelBook} {v : List TunnelPart} (h : Put (List TunnelPart) H fo n ds s.Parts v) : Put TunnelBook H (fo) n ds s ⟨v, s.Frames⟩ := by
  have h' : Put ((List TunnelPart) × (List TunnelFrame)) H (fo) n ds (s.Parts, s.Frames) (v, s.Frames) := Put.fst h
  exact ⟨h'.le, h'.len, h'.put⟩
theorem TunnelBook.put_Frames {H : Hp} {fo n : Nat} {ds : List Value} {s : TunnelBook} {v : List TunnelFrame} (h : Put (List TunnelFrame) H fo n ds s.Frames v) : Put TunnelBook H (Rp.sz (List TunnelPart) + (fo)) n ds s ⟨s.Parts, v⟩ := by
  have h' : Put ((List TunnelPart) × (List TunnelFrame)) H (Rp.sz (List TunnelPart) + (fo)) n ds (s.Parts, s.Frames) (s.Parts, v) := Put.snd (h)
  exact ⟨h'.le, h'.len, h'.put⟩
theorem TunnelBook.opened {H : Hp} {cs : List Value} {s : TunnelBook} (h : Rp.rep H cs s) : ∃ v0, ∃ v1, cs = [v0, v1] ∧ Sl (α := TunnelPart) H v0 s.Parts ∧ Sl (α := TunnelFrame) H v1 s.Frames := by
  obtain ⟨_, _, rfl, ⟨v0, rfl, hv0⟩, ⟨v1, rfl, hv1⟩⟩ := h
  exact ⟨v0, v1, rfl, hv0, hv1⟩

structure TunnelDrying where
  frame : Int
  set_ : List Int
  deriving DecidableEq

instance : Rp TunnelDrying := Rp.of (β := Int × (Arr 4 Int)) fun (s : TunnelDrying) => (s.frame, s.set_)
theorem TunnelDrying.at_frame {H : Hp} {b o : Nat} {s : TunnelDrying} (h : PAt H b o s) : PAt (α := Int) H b (o + 0) s.frame := by
  have h : PAt (α := Int × (Arr 4 Int)) H b o (s.frame, s.set_) := h
  exact (PAt.fst h)
theorem TunnelDrying.at_set_ {H : Hp} {b o : Nat} {s : TunnelDrying} (h : PAt H b o s) : PAt (α := Arr 4 Int) H b (o + 1) s.set_ := by
  have h : PAt (α := Int × (Arr 4 Int)) H b o (s.frame, s.set_) := h
  exact (PAt.snd h)
theorem TunnelDrying.put_frame {H : Hp} {fo n : Nat} {ds : List Value} {s : TunnelDrying} {v : Int} (h : Put (Int) H fo n ds s.frame v) : Put TunnelDrying H (fo) n ds s ⟨v, s.set_⟩ := by
  have h' : Put (Int × (Arr 4 Int)) H (fo) n ds (s.frame, s.set_) (v, s.set_) := Put.fst h
  exact ⟨h'.le, h'.len, h'.put⟩
theorem TunnelDrying.put_set_ {H : Hp} {fo n : Nat} {ds : List Value} {s : TunnelDrying} {v : List Int} (h : Put (Arr 4 Int) H fo n ds s.set_ v) : Put TunnelDrying H (Rp.sz (Int) + (fo)) n ds s ⟨s.frame, v⟩ := by
  have h' : Put (Int × (Arr 4 Int)) H (Rp.sz (Int) + (fo)) n ds (s.frame, s.set_) (s.frame, v) := Put.snd (h)
  exact ⟨h'.le, h'.len, h'.put⟩

structure TunnelChoice where
  set_ : List Int
  many : Int
  heat : Int
  deriving DecidableEq

instance : Rp TunnelChoice := Rp.of (β := (Arr 4 Int) × (Int × (Int))) fun (s : TunnelChoice) => (s.set_, (s.many, s.heat))
theorem TunnelChoice.at_set_ {H : Hp} {b o : Nat} {s : TunnelChoice} (h : PAt H b o s) : PAt (α := Arr 4 Int) H b (o + 0) s.set_ := by
  have h : PAt (α := (Arr 4 Int) × (Int × (Int))) H b o (s.set_, (s.many, s.heat)) := h
  exact (PAt.fst h)
theorem TunnelChoice.at_many {H : Hp} {b o : Nat} {s : TunnelChoice} (h : PAt H b o s) : PAt (α := Int) H b (o + 4) s.many := by
  have h : PAt (α := (Arr 4 Int) × (Int × (Int))) H b o (s.set_, (s.many, s.heat)) := h
  exact (PAt.fst (PAt.snd h))
theorem TunnelChoice.at_heat {H : Hp} {b o : Nat} {s : TunnelChoice} (h : PAt H b o s) : PAt (α := Int) H b (o + 5) s.heat := by
  have h : PAt (α := (Arr 4 Int) × (Int × (Int))) H b o (s.set_, (s.many, s.heat)) := h
  exact (PAt.snd (PAt.snd h))
theorem TunnelChoice.put_set_ {H : Hp} {fo n : Nat} {ds : List Value} {s : TunnelChoice} {v : List Int} (h : Put (Arr 4 Int) H fo n ds s.set_ v) : Put TunnelChoice H (fo) n ds s ⟨v, s.many, s.heat⟩ := by
  have h' : Put ((Arr 4 Int) × (Int × (Int))) H (fo) n ds (s.set_, (s.many, s.heat)) (v, s.many, s.heat) := Put.fst h
  exact ⟨h'.le, h'.len, h'.put⟩
theorem TunnelChoice.put_many {H : Hp} {fo n : Nat} {ds : List Value} {s : TunnelChoice} {v : Int} (h : Put (Int) H fo n ds s.many v) : Put TunnelChoice H (Rp.sz (Arr 4 Int) + (fo)) n ds s ⟨s.set_, v, s.heat⟩ := by
  have h' : Put ((Arr 4 Int) × (Int × (Int))) H (Rp.sz (Arr 4 Int) + (fo)) n ds (s.set_, (s.many, s.heat)) (s.set_, v, s.heat) := Put.snd (Put.fst h)
  exact ⟨h'.le, h'.len, h'.put⟩
theorem TunnelChoice.put_heat {H : Hp} {fo n : Nat} {ds : List Value} {s : TunnelChoice} {v : Int} (h : Put (Int) H fo n ds s.heat v) : Put TunnelChoice H (Rp.sz (Arr 4 Int) + (Rp.sz (Int) + (fo))) n ds s ⟨s.set_, s.many, v⟩ := by
  have h' : Put ((Arr 4 Int) × (Int × (Int))) H (Rp.sz (Arr 4 Int) + (Rp.sz (Int) + (fo))) n ds (s.set_, (s.many, s.heat)) (s.set_, s.many, v) := Put.snd (Put.snd (h))
  exact ⟨h'.le, h'.len, h'.put⟩

theorem ty3 : Ty Tryd.prog 3 (.int .i64) 1 (.int .i64 0) 8 := Ty.mk' Tryd.underlying3 (by kernel_rfl)
theorem ty4 : Ty Tryd.prog 4 (.bool) 1 (.bool false) 1 := Ty.mk' Tryd.underlying4 (by kernel_rfl)
theorem ty22 : Ty Tryd.prog 22 (.slice 64) 1 (.slice none 0 0) 24 := Ty.mk' Tryd.underlying22 (by kernel_rfl)
theorem ty23 : Ty Tryd.prog 23 (.slice 55) 1 (.slice none 0 0) 24 := Ty.mk' Tryd.underlying23 (by kernel_rfl)
theorem ty25 : Ty Tryd.prog 25 (.struct #[{ name := "Parts", type := 22, offset := 0, embedded := false, tag := "", pkgPath := "", byteOffset := 0 }, { name := "Frames", type := 23, offset := 1, embedded := false, tag := "", pkgPath := "", byteOffset := 24 }]) 2 (.agg #[.slice none 0 0, .slice none 0 0]) 48 := Ty.mk' Tryd.underlying25 (by kernel_rfl)
theorem ty26 : Ty Tryd.prog 26 (.slice 3) 1 (.slice none 0 0) 24 := Ty.mk' Tryd.underlying26 (by kernel_rfl)
theorem ty27 : Ty Tryd.prog 27 (.int .i64) 1 (.int .i64 0) 8 := Ty.mk' Tryd.underlying27 (by kernel_rfl)
theorem ty32 : Ty Tryd.prog 32 (.struct #[{ name := "Low", type := 3, offset := 0, embedded := false, tag := "", pkgPath := "", byteOffset := 0 }, { name := "High", type := 3, offset := 1, embedded := false, tag := "", pkgPath := "", byteOffset := 8 }]) 2 (.agg #[.int .i64 0, .int .i64 0]) 16 := Ty.mk' Tryd.underlying32 (by kernel_rfl)
theorem ty47 : Ty Tryd.prog 47 (.array 2 3) 2 (.agg #[.int .i64 0, .int .i64 0]) 16 := Ty.mk' Tryd.underlying47 (by kernel_rfl)
theorem ty55 : Ty Tryd.prog 55 (.struct #[{ name := "Stay", type := 26, offset := 0, embedded := false, tag := "", pkgPath := "", byteOffset := 0 }, { name := "Need", type := 32, offset := 1, embedded := false, tag := "", pkgPath := "", byteOffset := 24 }]) 3 (.agg #[.slice none 0 0, .int .i64 0, .int .i64 0]) 40 := Ty.mk' Tryd.underlying55 (by kernel_rfl)
theorem ty62 : Ty Tryd.prog 62 (.array 4 3) 4 (.agg #[.int .i64 0, .int .i64 0, .int .i64 0, .int .i64 0]) 32 := Ty.mk' Tryd.underlying62 (by kernel_rfl)
theorem ty64 : Ty Tryd.prog 64 (.struct #[{ name := "Heat", type := 62, offset := 0, embedded := false, tag := "", pkgPath := "", byteOffset := 0 }, { name := "Damp", type := 32, offset := 4, embedded := false, tag := "", pkgPath := "", byteOffset := 32 }]) 6 (.agg #[.int .i64 0, .int .i64 0, .int .i64 0, .int .i64 0, .int .i64 0, .int .i64 0]) 48 := Ty.mk' Tryd.underlying64 (by kernel_rfl)
theorem ty68 : Ty Tryd.prog 68 (.slice 32) 1 (.slice none 0 0) 24 := Ty.mk' Tryd.underlying68 (by kernel_rfl)
theorem ty70 : Ty Tryd.prog 70 (.struct #[{ name := "Promise", type := 3, offset := 0, embedded := false, tag := "", pkgPath := "", byteOffset := 0 }, { name := "Less", type := 3, offset := 1, embedded := false, tag := "", pkgPath := "", byteOffset := 8 }, { name := "More", type := 3, offset := 2, embedded := false, tag := "", pkgPath := "", byteOffset := 16 }, { name := "Group", type := 3, offset := 3, embedded := false, tag := "", pkgPath := "", byteOffset := 24 }, { name := "Hands", type := 68, offset := 4, embedded := false, tag := "", pkgPath := "", byteOffset := 32 }]) 5 (.agg #[.int .i64 0, .int .i64 0, .int .i64 0, .int .i64 0, .slice none 0 0]) 56 := Ty.mk' Tryd.underlying70 (by kernel_rfl)
theorem ty79 : Ty Tryd.prog 79 (.slice 173) 1 (.slice none 0 0) 24 := Ty.mk' Tryd.underlying79 (by kernel_rfl)
theorem ty80 : Ty Tryd.prog 80 (.slice 171) 1 (.slice none 0 0) 24 := Ty.mk' Tryd.underlying80 (by kernel_rfl)
theorem ty82 : Ty Tryd.prog 82 (.struct #[{ name := "Lots", type := 79, offset := 0, embedded := false, tag := "", pkgPath := "", byteOffset := 0 }, { name := "Doors", type := 80, offset := 1, embedded := false, tag := "", pkgPath := "", byteOffset := 24 }, { name := "Buckets", type := 80, offset := 2, embedded := false, tag := "", pkgPath := "", byteOffset := 48 }, { name := "Spare", type := 80, offset := 3, embedded := false, tag := "", pkgPath := "", byteOffset := 72 }, { name := "Apart", type := 3, offset := 4, embedded := false, tag := "", pkgPath := "", byteOffset := 96 }, { name := "Door", type := 3, offset := 5, embedded := false, tag := "", pkgPath := "", byteOffset := 104 }, { name := "Bucket", type := 3, offset := 6, embedded := false, tag := "", pkgPath := "", byteOffset := 112 }, { name := "Error", type := 3, offset := 7, embedded := false, tag := "", pkgPath := "", byteOffset := 120 }]) 8 (.agg #[.slice none 0 0, .slice none 0 0, .slice none 0 0, .slice none 0 0, .int .i64 0, .int .i64 0, .int .i64 0, .int .i64 0]) 128 := Ty.mk' Tryd.underlying82 (by kernel_rfl)
theorem ty84 : Ty Tryd.prog 84 (.struct #[{ name := "Good", type := 3, offset := 0, embedded := false, tag := "", pkgPath := "", byteOffset := 0 }, { name := "Near", type := 3, offset := 1, embedded := false, tag := "", pkgPath := "", byteOffset := 8 }, { name := "Served", type := 3, offset := 2, embedded := false, tag := "", pkgPath := "", byteOffset := 16 }, { name := "Heat", type := 3, offset := 3, embedded := false, tag := "", pkgPath := "", byteOffset := 24 }, { name := "Frame", type := 3, offset := 4, embedded := false, tag := "", pkgPath := "", byteOffset := 32 }]) 5 (.agg #[.int .i64 0, .int .i64 0, .int .i64 0, .int .i64 0, .int .i64 0]) 40 := Ty.mk' Tryd.underlying84 (by kernel_rfl)
theorem ty86 : Ty Tryd.prog 86 (.struct #[{ name := "Yard", type := 82, offset := 0, embedded := false, tag := "", pkgPath := "", byteOffset := 0 }, { name := "Tunnel", type := 25, offset := 8, embedded := false, tag := "", pkgPath := "", byteOffset := 128 }, { name := "Rates", type := 84, offset := 10, embedded := false, tag := "", pkgPath := "", byteOffset := 176 }]) 15 (.agg #[.slice none 0 0, .slice none 0 0, .slice none 0 0, .slice none 0 0, .int .i64 0, .int .i64 0, .int .i64 0, .int .i64 0, .slice none 0 0, .slice none 0 0, .int .i64 0, .int .i64 0, .int .i64 0, .int .i64 0, .int .i64 0]) 216 := Ty.mk' Tryd.underlying86 (by kernel_rfl)
theorem ty89 : Ty Tryd.prog 89 (.struct #[{ name := "Choice", type := 26, offset := 0, embedded := false, tag := "", pkgPath := "", byteOffset := 0 }, { name := "Set", type := 26, offset := 1, embedded := false, tag := "", pkgPath := "", byteOffset := 24 }]) 2 (.agg #[.slice none 0 0, .slice none 0 0]) 48 := Ty.mk' Tryd.underlying89 (by kernel_rfl)
theorem ty94 : Ty Tryd.prog 94 (.func #[25, 3] #[4] false) 1 (.nilFunc) 8 := Ty.mk' Tryd.underlying94 (by kernel_rfl)
theorem ty108 : Ty Tryd.prog 108 (.map 120 32) 1 (.map none) 8 := Ty.mk' Tryd.underlying108 (by kernel_rfl)
theorem ty110 : Ty Tryd.prog 110 (.struct #[{ name := "TunnelBook", type := 25, offset := 0, embedded := true, tag := "", pkgPath := "", byteOffset := 0 }, { name := "known", type := 108, offset := 2, embedded := false, tag := "", pkgPath := "lucifer/tunnel", byteOffset := 48 }]) 3 (.agg #[.slice none 0 0, .slice none 0 0, .map none]) 56 := Ty.mk' Tryd.underlying110 (by kernel_rfl)
theorem ty111 : Ty Tryd.prog 111 (.array 4 3) 4 (.agg #[.int .i64 0, .int .i64 0, .int .i64 0, .int .i64 0]) 32 := Ty.mk' Tryd.underlying111 (by kernel_rfl)
theorem ty120 : Ty Tryd.prog 120 (.struct #[{ name := "frame", type := 3, offset := 0, embedded := false, tag := "", pkgPath := "lucifer/tunnel", byteOffset := 0 }, { name := "set", type := 111, offset := 1, embedded := false, tag := "", pkgPath := "lucifer/tunnel", byteOffset := 8 }]) 5 (.agg #[.int .i64 0, .int .i64 0, .int .i64 0, .int .i64 0, .int .i64 0]) 40 := Ty.mk' Tryd.underlying120 (by kernel_rfl)
theorem ty125 : Ty Tryd.prog 125 (.struct #[{ name := "set", type := 111, offset := 0, embedded := false, tag := "", pkgPath := "lucifer/tunnel", byteOffset := 0 }, { name := "many", type := 3, offset := 4, embedded := false, tag := "", pkgPath := "lucifer/tunnel", byteOffset := 32 }, { name := "heat", type := 3, offset := 5, embedded := false, tag := "", pkgPath := "lucifer/tunnel", byteOffset := 40 }]) 6 (.agg #[.int .i64 0, .int .i64 0, .int .i64 0, .int .i64 0, .int .i64 0, .int .i64 0]) 48 := Ty.mk' Tryd.underlying125 (by kernel_rfl)
theorem ty131 : Ty Tryd.prog 131 (.func #[120] #[4] false) 1 (.nilFunc) 8 := Ty.mk' Tryd.underlying131 (by kernel_rfl)
theorem ty141 : Ty Tryd.prog 141 (.slice 234) 1 (.slice none 0 0) 24 := Ty.mk' Tryd.underlying141 (by kernel_rfl)
theorem ty143 : Ty Tryd.prog 143 (.struct #[{ name := "Long", type := 26, offset := 0, embedded := false, tag := "", pkgPath := "", byteOffset := 0 }, { name := "Size", type := 3, offset := 1, embedded := false, tag := "", pkgPath := "", byteOffset := 24 }, { name := "Knots", type := 141, offset := 2, embedded := false, tag := "", pkgPath := "", byteOffset := 32 }]) 3 (.agg #[.slice none 0 0, .int .i64 0, .slice none 0 0]) 56 := Ty.mk' Tryd.underlying143 (by kernel_rfl)
theorem ty149 : Ty Tryd.prog 149 (.struct #[{ name := "plan", type := 26, offset := 0, embedded := false, tag := "", pkgPath := "lucifer/fill", byteOffset := 0 }, { name := "boxes", type := 3, offset := 1, embedded := false, tag := "", pkgPath := "lucifer/fill", byteOffset := 24 }, { name := "hands", type := 3, offset := 2, embedded := false, tag := "", pkgPath := "lucifer/fill", byteOffset := 32 }]) 3 (.agg #[.slice none 0 0, .int .i64 0, .int .i64 0]) 40 := Ty.mk' Tryd.underlying149 (by kernel_rfl)
theorem ty151 : Ty Tryd.prog 151 (.array 8 32) 16 (.agg #[.int .i64 0, .int .i64 0, .int .i64 0, .int .i64 0, .int .i64 0, .int .i64 0, .int .i64 0, .int .i64 0, .int .i64 0, .int .i64 0, .int .i64 0, .int .i64 0, .int .i64 0, .int .i64 0, .int .i64 0, .int .i64 0]) 128 := Ty.mk' Tryd.underlying151 (by kernel_rfl)
theorem ty154 : Ty Tryd.prog 154 (.struct #[{ name := "FillBook", type := 70, offset := 0, embedded := true, tag := "", pkgPath := "", byteOffset := 0 }, { name := "hands", type := 151, offset := 5, embedded := false, tag := "", pkgPath := "lucifer/fill", byteOffset := 56 }, { name := "known", type := 152, offset := 21, embedded := false, tag := "", pkgPath := "lucifer/fill", byteOffset := 184 }]) 22 (.agg #[.int .i64 0, .int .i64 0, .int .i64 0, .int .i64 0, .slice none 0 0, .int .i64 0, .int .i64 0, .int .i64 0, .int .i64 0, .int .i64 0, .int .i64 0, .int .i64 0, .int .i64 0, .int .i64 0, .int .i64 0, .int .i64 0, .int .i64 0, .int .i64 0, .int .i64 0, .int .i64 0, .int .i64 0, .map none]) 192 := Ty.mk' Tryd.underlying154 (by kernel_rfl)
theorem ty157 : Ty Tryd.prog 157 (.func #[149, 149] #[4] false) 1 (.nilFunc) 8 := Ty.mk' Tryd.underlying157 (by kernel_rfl)
theorem ty159 : Ty Tryd.prog 159 (.struct #[{ name := "better", type := 157, offset := 0, embedded := false, tag := "", pkgPath := "lucifer/fill", byteOffset := 0 }]) 1 (.agg #[.nilFunc]) 8 := Ty.mk' Tryd.underlying159 (by kernel_rfl)
theorem ty165 : Ty Tryd.prog 165 (.struct #[{ name := "from", type := 3, offset := 0, embedded := false, tag := "", pkgPath := "lucifer/fill", byteOffset := 0 }, { name := "to", type := 3, offset := 1, embedded := false, tag := "", pkgPath := "lucifer/fill", byteOffset := 8 }]) 2 (.agg #[.int .i64 0, .int .i64 0]) 16 := Ty.mk' Tryd.underlying165 (by kernel_rfl)
theorem ty171 : Ty Tryd.prog 171 (.struct #[{ name := "X", type := 3, offset := 0, embedded := false, tag := "", pkgPath := "", byteOffset := 0 }, { name := "Y", type := 3, offset := 1, embedded := false, tag := "", pkgPath := "", byteOffset := 8 }]) 2 (.agg #[.int .i64 0, .int .i64 0]) 16 := Ty.mk' Tryd.underlying171 (by kernel_rfl)
theorem ty173 : Ty Tryd.prog 173 (.struct #[{ name := "At", type := 171, offset := 0, embedded := false, tag := "", pkgPath := "", byteOffset := 0 }, { name := "Room", type := 32, offset := 2, embedded := false, tag := "", pkgPath := "", byteOffset := 16 }]) 4 (.agg #[.int .i64 0, .int .i64 0, .int .i64 0, .int .i64 0]) 32 := Ty.mk' Tryd.underlying173 (by kernel_rfl)
theorem ty176 : Ty Tryd.prog 176 (.map 264 3) 1 (.map none) 8 := Ty.mk' Tryd.underlying176 (by kernel_rfl)
theorem ty178 : Ty Tryd.prog 178 (.struct #[{ name := "InsureBook", type := 86, offset := 0, embedded := true, tag := "", pkgPath := "", byteOffset := 0 }, { name := "near", type := 176, offset := 15, embedded := false, tag := "", pkgPath := "lucifer/insure", byteOffset := 216 }]) 16 (.agg #[.slice none 0 0, .slice none 0 0, .slice none 0 0, .slice none 0 0, .int .i64 0, .int .i64 0, .int .i64 0, .int .i64 0, .slice none 0 0, .slice none 0 0, .int .i64 0, .int .i64 0, .int .i64 0, .int .i64 0, .int .i64 0, .map none]) 224 := Ty.mk' Tryd.underlying178 (by kernel_rfl)
theorem ty182 : Ty Tryd.prog 182 (.func #[89, 89, 3, 3] #[4] false) 1 (.nilFunc) 8 := Ty.mk' Tryd.underlying182 (by kernel_rfl)
theorem ty184 : Ty Tryd.prog 184 (.struct #[{ name := "better", type := 182, offset := 0, embedded := false, tag := "", pkgPath := "lucifer/insure", byteOffset := 0 }]) 1 (.agg #[.nilFunc]) 8 := Ty.mk' Tryd.underlying184 (by kernel_rfl)
theorem ty191 : Ty Tryd.prog 191 (.map 289 32) 1 (.map none) 8 := Ty.mk' Tryd.underlying191 (by kernel_rfl)
theorem ty193 : Ty Tryd.prog 193 (.struct #[{ name := "YardBook", type := 82, offset := 0, embedded := true, tag := "", pkgPath := "", byteOffset := 0 }, { name := "known", type := 191, offset := 8, embedded := false, tag := "", pkgPath := "lucifer/yard", byteOffset := 128 }]) 9 (.agg #[.slice none 0 0, .slice none 0 0, .slice none 0 0, .slice none 0 0, .int .i64 0, .int .i64 0, .int .i64 0, .int .i64 0, .map none]) 136 := Ty.mk' Tryd.underlying193 (by kernel_rfl)
theorem ty201 : Ty Tryd.prog 201 (.array 7 4) 7 (.agg #[.bool false, .bool false, .bool false, .bool false, .bool false, .bool false, .bool false]) 7 := Ty.mk' Tryd.underlying201 (by kernel_rfl)
theorem ty211 : Ty Tryd.prog 211 (.func #[110, 3] #[3] false) 1 (.nilFunc) 8 := Ty.mk' Tryd.underlying211 (by kernel_rfl)
theorem ty212 : Ty Tryd.prog 212 (.array 2 211) 2 (.agg #[.nilFunc, .nilFunc]) 16 := Ty.mk' Tryd.underlying212 (by kernel_rfl)
theorem ty213 : Ty Tryd.prog 213 (.func #[125, 125] #[4] false) 1 (.nilFunc) 8 := Ty.mk' Tryd.underlying213 (by kernel_rfl)
theorem ty215 : Ty Tryd.prog 215 (.struct #[{ name := "better", type := 213, offset := 0, embedded := false, tag := "", pkgPath := "lucifer/tunnel", byteOffset := 0 }]) 1 (.agg #[.nilFunc]) 8 := Ty.mk' Tryd.underlying215 (by kernel_rfl)
theorem ty217 : Ty Tryd.prog 217 (.func #[266] #[] false) 1 (.nilFunc) 8 := Ty.mk' Tryd.underlying217 (by kernel_rfl)
theorem ty221 : Ty Tryd.prog 221 (.map 276 230) 1 (.map none) 8 := Ty.mk' Tryd.underlying221 (by kernel_rfl)
theorem ty223 : Ty Tryd.prog 223 (.struct #[{ name := "PeelLog", type := 143, offset := 0, embedded := true, tag := "", pkgPath := "", byteOffset := 0 }, { name := "marks", type := 221, offset := 3, embedded := false, tag := "", pkgPath := "lucifer/peel", byteOffset := 56 }]) 4 (.agg #[.slice none 0 0, .int .i64 0, .slice none 0 0, .map none]) 64 := Ty.mk' Tryd.underlying223 (by kernel_rfl)
theorem ty230 : Ty Tryd.prog 230 (.array 72 4) 72 (.agg #[.bool false, .bool false, .bool false, .bool false, .bool false, .bool false, .bool false, .bool false, .bool false, .bool false, .bool false, .bool false, .bool false, .bool false, .bool false, .bool false, .bool false, .bool false, .bool false, .bool false, .bool false, .bool false, .bool false, .bool false, .bool false, .bool false, .bool false, .bool false, .bool false, .bool false, .bool false, .bool false, .bool false, .bool false, .bool false, .bool false, .bool false, .bool false, .bool false, .bool false, .bool false, .bool false, .bool false, .bool false, .bool false, .bool false, .bool false, .bool false, .bool false, .bool false, .bool false, .bool false, .bool false, .bool false, .bool false, .bool false, .bool false, .bool false, .bool false, .bool false, .bool false, .bool false, .bool false, .bool false, .bool false, .bool false, .bool false, .bool false, .bool false, .bool false, .bool false, .bool false]) 72 := Ty.mk' Tryd.underlying230 (by kernel_rfl)
theorem ty234 : Ty Tryd.prog 234 (.struct #[{ name := "Angle", type := 32, offset := 0, embedded := false, tag := "", pkgPath := "", byteOffset := 0 }, { name := "First", type := 32, offset := 2, embedded := false, tag := "", pkgPath := "", byteOffset := 16 }]) 4 (.agg #[.int .i64 0, .int .i64 0, .int .i64 0, .int .i64 0]) 32 := Ty.mk' Tryd.underlying234 (by kernel_rfl)
theorem ty247 : Ty Tryd.prog 247 (.func #[32] #[3] false) 1 (.nilFunc) 8 := Ty.mk' Tryd.underlying247 (by kernel_rfl)
theorem ty261 : Ty Tryd.prog 261 (.func #[264, 3] #[4] false) 1 (.nilFunc) 8 := Ty.mk' Tryd.underlying261 (by kernel_rfl)
theorem ty262 : Ty Tryd.prog 262 (.func #[3] #[] false) 1 (.nilFunc) 8 := Ty.mk' Tryd.underlying262 (by kernel_rfl)
theorem ty266 : Ty Tryd.prog 266 (.func #[111] #[4] false) 1 (.nilFunc) 8 := Ty.mk' Tryd.underlying266 (by kernel_rfl)
theorem ty267 : Ty Tryd.prog 267 (.func #[111, 3] #[4] false) 1 (.nilFunc) 8 := Ty.mk' Tryd.underlying267 (by kernel_rfl)
theorem ty272 : Ty Tryd.prog 272 (.func #[3, 230] #[4] false) 1 (.nilFunc) 8 := Ty.mk' Tryd.underlying272 (by kernel_rfl)
theorem ty276 : Ty Tryd.prog 276 (.struct #[{ name := "angle", type := 3, offset := 0, embedded := false, tag := "", pkgPath := "lucifer/peel", byteOffset := 0 }, { name := "turn", type := 3, offset := 1, embedded := false, tag := "", pkgPath := "lucifer/peel", byteOffset := 8 }]) 2 (.agg #[.int .i64 0, .int .i64 0]) 16 := Ty.mk' Tryd.underlying276 (by kernel_rfl)
theorem ty280 : Ty Tryd.prog 280 (.func #[26] #[4] false) 1 (.nilFunc) 8 := Ty.mk' Tryd.underlying280 (by kernel_rfl)
theorem ty281 : Ty Tryd.prog 281 (.func #[3, 26] #[4] false) 1 (.nilFunc) 8 := Ty.mk' Tryd.underlying281 (by kernel_rfl)
theorem ty289 : Ty Tryd.prog 289 (.struct #[{ name := "from", type := 171, offset := 0, embedded := false, tag := "", pkgPath := "lucifer/yard", byteOffset := 0 }, { name := "to", type := 171, offset := 2, embedded := false, tag := "", pkgPath := "lucifer/yard", byteOffset := 16 }]) 4 (.agg #[.int .i64 0, .int .i64 0, .int .i64 0, .int .i64 0]) 32 := Ty.mk' Tryd.underlying289 (by kernel_rfl)
theorem ty291 : Ty Tryd.prog 291 (.struct #[{ name := "of", type := 247, offset := 0, embedded := false, tag := "", pkgPath := "lucifer/yard", byteOffset := 0 }]) 1 (.agg #[.nilFunc]) 8 := Ty.mk' Tryd.underlying291 (by kernel_rfl)
theorem ty295 : Ty Tryd.prog 295 (.array 7 4) 7 (.agg #[.bool false, .bool false, .bool false, .bool false, .bool false, .bool false, .bool false]) 7 := Ty.mk' Tryd.underlying295 (by kernel_rfl)
theorem fo25_0 : FldOff Tryd.prog 25 0 0 := by
  obtain ⟨i, hi, hs, _⟩ := ty22.i
  exact ⟨_, _, i, Tryd.underlying25, rfl, rfl, hi, by rw [hs]; decide⟩
theorem fo25_1 : FldOff Tryd.prog 25 1 1 := by
  obtain ⟨i, hi, hs, _⟩ := ty23.i
  exact ⟨_, _, i, Tryd.underlying25, rfl, rfl, hi, by rw [hs]; decide⟩
theorem fo32_0 : FldOff Tryd.prog 32 0 0 := by
  obtain ⟨i, hi, hs, _⟩ := ty3.i
  exact ⟨_, _, i, Tryd.underlying32, rfl, rfl, hi, by rw [hs]; decide⟩
theorem fo32_1 : FldOff Tryd.prog 32 1 1 := by
  obtain ⟨i, hi, hs, _⟩ := ty3.i
  exact ⟨_, _, i, Tryd.underlying32, rfl, rfl, hi, by rw [hs]; decide⟩
theorem fo55_0 : FldOff Tryd.prog 55 0 0 := by
  obtain ⟨i, hi, hs, _⟩ := ty26.i
  exact ⟨_, _, i, Tryd.underlying55, rfl, rfl, hi, by rw [hs]; decide⟩
theorem fo55_1 : FldOff Tryd.prog 55 1 1 := by
  obtain ⟨i, hi, hs, _⟩ := ty32.i
  exact ⟨_, _, i, Tryd.underlying55, rfl, rfl, hi, by rw [hs]; decide⟩
theorem fo64_0 : FldOff Tryd.prog 64 0 0 := by
  obtain ⟨i, hi, hs, _⟩ := ty62.i
  exact ⟨_, _, i, Tryd.underlying64, rfl, rfl, hi, by rw [hs]; decide⟩
theorem fo64_1 : FldOff Tryd.prog 64 1 4 := by
  obtain ⟨i, hi, hs, _⟩ := ty32.i
  exact ⟨_, _, i, Tryd.underlying64, rfl, rfl, hi, by rw [hs]; decide⟩
theorem fo70_0 : FldOff Tryd.prog 70 0 0 := by
  obtain ⟨i, hi, hs, _⟩ := ty3.i
  exact ⟨_, _, i, Tryd.underlying70, rfl, rfl, hi, by rw [hs]; decide⟩
theorem fo70_1 : FldOff Tryd.prog 70 1 1 := by
  obtain ⟨i, hi, hs, _⟩ := ty3.i
  exact ⟨_, _, i, Tryd.underlying70, rfl, rfl, hi, by rw [hs]; decide⟩
theorem fo70_2 : FldOff Tryd.prog 70 2 2 := by
  obtain ⟨i, hi, hs, _⟩ := ty3.i
  exact ⟨_, _, i, Tryd.underlying70, rfl, rfl, hi, by rw [hs]; decide⟩
theorem fo70_3 : FldOff Tryd.prog 70 3 3 := by
  obtain ⟨i, hi, hs, _⟩ := ty3.i
  exact ⟨_, _, i, Tryd.underlying70, rfl, rfl, hi, by rw [hs]; decide⟩
theorem fo70_4 : FldOff Tryd.prog 70 4 4 := by
  obtain ⟨i, hi, hs, _⟩ := ty68.i
  exact ⟨_, _, i, Tryd.underlying70, rfl, rfl, hi, by rw [hs]; decide⟩
theorem fo82_0 : FldOff Tryd.prog 82 0 0 := by
  obtain ⟨i, hi, hs, _⟩ := ty79.i
  exact ⟨_, _, i, Tryd.underlying82, rfl, rfl, hi, by rw [hs]; decide⟩
theorem fo82_1 : FldOff Tryd.prog 82 1 1 := by
  obtain ⟨i, hi, hs, _⟩ := ty80.i
  exact ⟨_, _, i, Tryd.underlying82, rfl, rfl, hi, by rw [hs]; decide⟩
theorem fo82_2 : FldOff Tryd.prog 82 2 2 := by
  obtain ⟨i, hi, hs, _⟩ := ty80.i
  exact ⟨_, _, i, Tryd.underlying82, rfl, rfl, hi, by rw [hs]; decide⟩
theorem fo82_3 : FldOff Tryd.prog 82 3 3 := by
  obtain ⟨i, hi, hs, _⟩ := ty80.i
  exact ⟨_, _, i, Tryd.underlying82, rfl, rfl, hi, by rw [hs]; decide⟩
theorem fo82_4 : FldOff Tryd.prog 82 4 4 := by
  obtain ⟨i, hi, hs, _⟩ := ty3.i
  exact ⟨_, _, i, Tryd.underlying82, rfl, rfl, hi, by rw [hs]; decide⟩
theorem fo82_5 : FldOff Tryd.prog 82 5 5 := by
  obtain ⟨i, hi, hs, _⟩ := ty3.i
  exact ⟨_, _, i, Tryd.underlying82, rfl, rfl, hi, by rw [hs]; decide⟩
theorem fo82_6 : FldOff Tryd.prog 82 6 6 := by
  obtain ⟨i, hi, hs, _⟩ := ty3.i
  exact ⟨_, _, i, Tryd.underlying82, rfl, rfl, hi, by rw [hs]; decide⟩
theorem fo82_7 : FldOff Tryd.prog 82 7 7 := by
  obtain ⟨i, hi, hs, _⟩ := ty3.i
  exact ⟨_, _, i, Tryd.underlying82, rfl, rfl, hi, by rw [hs]; decide⟩
theorem fo84_0 : FldOff Tryd.prog 84 0 0 := by
  obtain ⟨i, hi, hs, _⟩ := ty3.i
  exact ⟨_, _, i, Tryd.underlying84, rfl, rfl, hi, by rw [hs]; decide⟩
theorem fo84_1 : FldOff Tryd.prog 84 1 1 := by
  obtain ⟨i, hi, hs, _⟩ := ty3.i
  exact ⟨_, _, i, Tryd.underlying84, rfl, rfl, hi, by rw [hs]; decide⟩
theorem fo84_2 : FldOff Tryd.prog 84 2 2 := by
  obtain ⟨i, hi, hs, _⟩ := ty3.i
  exact ⟨_, _, i, Tryd.underlying84, rfl, rfl, hi, by rw [hs]; decide⟩
theorem fo84_3 : FldOff Tryd.prog 84 3 3 := by
  obtain ⟨i, hi, hs, _⟩ := ty3.i
  exact ⟨_, _, i, Tryd.underlying84, rfl, rfl, hi, by rw [hs]; decide⟩
theorem fo84_4 : FldOff Tryd.prog 84 4 4 := by
  obtain ⟨i, hi, hs, _⟩ := ty3.i
  exact ⟨_, _, i, Tryd.underlying84, rfl, rfl, hi, by rw [hs]; decide⟩
theorem fo86_0 : FldOff Tryd.prog 86 0 0 := by
  obtain ⟨i, hi, hs, _⟩ := ty82.i
  exact ⟨_, _, i, Tryd.underlying86, rfl, rfl, hi, by rw [hs]; decide⟩
theorem fo86_1 : FldOff Tryd.prog 86 1 8 := by
  obtain ⟨i, hi, hs, _⟩ := ty25.i
  exact ⟨_, _, i, Tryd.underlying86, rfl, rfl, hi, by rw [hs]; decide⟩
theorem fo86_2 : FldOff Tryd.prog 86 2 10 := by
  obtain ⟨i, hi, hs, _⟩ := ty84.i
  exact ⟨_, _, i, Tryd.underlying86, rfl, rfl, hi, by rw [hs]; decide⟩
theorem fo89_0 : FldOff Tryd.prog 89 0 0 := by
  obtain ⟨i, hi, hs, _⟩ := ty26.i
  exact ⟨_, _, i, Tryd.underlying89, rfl, rfl, hi, by rw [hs]; decide⟩
theorem fo89_1 : FldOff Tryd.prog 89 1 1 := by
  obtain ⟨i, hi, hs, _⟩ := ty26.i
  exact ⟨_, _, i, Tryd.underlying89, rfl, rfl, hi, by rw [hs]; decide⟩
theorem fo110_0 : FldOff Tryd.prog 110 0 0 := by
  obtain ⟨i, hi, hs, _⟩ := ty25.i
  exact ⟨_, _, i, Tryd.underlying110, rfl, rfl, hi, by rw [hs]; decide⟩
theorem fo110_1 : FldOff Tryd.prog 110 1 2 := by
  obtain ⟨i, hi, hs, _⟩ := ty108.i
  exact ⟨_, _, i, Tryd.underlying110, rfl, rfl, hi, by rw [hs]; decide⟩
theorem fo120_0 : FldOff Tryd.prog 120 0 0 := by
  obtain ⟨i, hi, hs, _⟩ := ty3.i
  exact ⟨_, _, i, Tryd.underlying120, rfl, rfl, hi, by rw [hs]; decide⟩
theorem fo120_1 : FldOff Tryd.prog 120 1 1 := by
  obtain ⟨i, hi, hs, _⟩ := ty111.i
  exact ⟨_, _, i, Tryd.underlying120, rfl, rfl, hi, by rw [hs]; decide⟩
theorem fo125_0 : FldOff Tryd.prog 125 0 0 := by
  obtain ⟨i, hi, hs, _⟩ := ty111.i
  exact ⟨_, _, i, Tryd.underlying125, rfl, rfl, hi, by rw [hs]; decide⟩
theorem fo125_1 : FldOff Tryd.prog 125 1 4 := by
  obtain ⟨i, hi, hs, _⟩ := ty3.i
  exact ⟨_, _, i, Tryd.underlying125, rfl, rfl, hi, by rw [hs]; decide⟩
theorem fo125_2 : FldOff Tryd.prog 125 2 5 := by
  obtain ⟨i, hi, hs, _⟩ := ty3.i
  exact ⟨_, _, i, Tryd.underlying125, rfl, rfl, hi, by rw [hs]; decide⟩
theorem fo143_0 : FldOff Tryd.prog 143 0 0 := by
  obtain ⟨i, hi, hs, _⟩ := ty26.i
  exact ⟨_, _, i, Tryd.underlying143, rfl, rfl, hi, by rw [hs]; decide⟩
theorem fo143_1 : FldOff Tryd.prog 143 1 1 := by
  obtain ⟨i, hi, hs, _⟩ := ty3.i
  exact ⟨_, _, i, Tryd.underlying143, rfl, rfl, hi, by rw [hs]; decide⟩
theorem fo143_2 : FldOff Tryd.prog 143 2 2 := by
  obtain ⟨i, hi, hs, _⟩ := ty141.i
  exact ⟨_, _, i, Tryd.underlying143, rfl, rfl, hi, by rw [hs]; decide⟩
theorem fo149_1 : FldOff Tryd.prog 149 1 1 := by
  obtain ⟨i, hi, hs, _⟩ := ty3.i
  exact ⟨_, _, i, Tryd.underlying149, rfl, rfl, hi, by rw [hs]; decide⟩
theorem fo149_2 : FldOff Tryd.prog 149 2 2 := by
  obtain ⟨i, hi, hs, _⟩ := ty3.i
  exact ⟨_, _, i, Tryd.underlying149, rfl, rfl, hi, by rw [hs]; decide⟩
theorem fo154_0 : FldOff Tryd.prog 154 0 0 := by
  obtain ⟨i, hi, hs, _⟩ := ty70.i
  exact ⟨_, _, i, Tryd.underlying154, rfl, rfl, hi, by rw [hs]; decide⟩
theorem fo154_1 : FldOff Tryd.prog 154 1 5 := by
  obtain ⟨i, hi, hs, _⟩ := ty151.i
  exact ⟨_, _, i, Tryd.underlying154, rfl, rfl, hi, by rw [hs]; decide⟩
theorem fo165_0 : FldOff Tryd.prog 165 0 0 := by
  obtain ⟨i, hi, hs, _⟩ := ty3.i
  exact ⟨_, _, i, Tryd.underlying165, rfl, rfl, hi, by rw [hs]; decide⟩
theorem fo165_1 : FldOff Tryd.prog 165 1 1 := by
  obtain ⟨i, hi, hs, _⟩ := ty3.i
  exact ⟨_, _, i, Tryd.underlying165, rfl, rfl, hi, by rw [hs]; decide⟩
theorem fo171_0 : FldOff Tryd.prog 171 0 0 := by
  obtain ⟨i, hi, hs, _⟩ := ty3.i
  exact ⟨_, _, i, Tryd.underlying171, rfl, rfl, hi, by rw [hs]; decide⟩
theorem fo171_1 : FldOff Tryd.prog 171 1 1 := by
  obtain ⟨i, hi, hs, _⟩ := ty3.i
  exact ⟨_, _, i, Tryd.underlying171, rfl, rfl, hi, by rw [hs]; decide⟩
theorem fo173_0 : FldOff Tryd.prog 173 0 0 := by
  obtain ⟨i, hi, hs, _⟩ := ty171.i
  exact ⟨_, _, i, Tryd.underlying173, rfl, rfl, hi, by rw [hs]; decide⟩
theorem fo173_1 : FldOff Tryd.prog 173 1 2 := by
  obtain ⟨i, hi, hs, _⟩ := ty32.i
  exact ⟨_, _, i, Tryd.underlying173, rfl, rfl, hi, by rw [hs]; decide⟩
theorem fo178_0 : FldOff Tryd.prog 178 0 0 := by
  obtain ⟨i, hi, hs, _⟩ := ty86.i
  exact ⟨_, _, i, Tryd.underlying178, rfl, rfl, hi, by rw [hs]; decide⟩
theorem fo178_1 : FldOff Tryd.prog 178 1 15 := by
  obtain ⟨i, hi, hs, _⟩ := ty176.i
  exact ⟨_, _, i, Tryd.underlying178, rfl, rfl, hi, by rw [hs]; decide⟩
theorem fo193_0 : FldOff Tryd.prog 193 0 0 := by
  obtain ⟨i, hi, hs, _⟩ := ty82.i
  exact ⟨_, _, i, Tryd.underlying193, rfl, rfl, hi, by rw [hs]; decide⟩
theorem fo193_1 : FldOff Tryd.prog 193 1 8 := by
  obtain ⟨i, hi, hs, _⟩ := ty191.i
  exact ⟨_, _, i, Tryd.underlying193, rfl, rfl, hi, by rw [hs]; decide⟩
theorem fo215_0 : FldOff Tryd.prog 215 0 0 := by
  obtain ⟨i, hi, hs, _⟩ := ty213.i
  exact ⟨_, _, i, Tryd.underlying215, rfl, rfl, hi, by rw [hs]; decide⟩
theorem fo223_0 : FldOff Tryd.prog 223 0 0 := by
  obtain ⟨i, hi, hs, _⟩ := ty143.i
  exact ⟨_, _, i, Tryd.underlying223, rfl, rfl, hi, by rw [hs]; decide⟩
theorem fo223_1 : FldOff Tryd.prog 223 1 3 := by
  obtain ⟨i, hi, hs, _⟩ := ty221.i
  exact ⟨_, _, i, Tryd.underlying223, rfl, rfl, hi, by rw [hs]; decide⟩
theorem fo234_0 : FldOff Tryd.prog 234 0 0 := by
  obtain ⟨i, hi, hs, _⟩ := ty32.i
  exact ⟨_, _, i, Tryd.underlying234, rfl, rfl, hi, by rw [hs]; decide⟩
theorem fo234_1 : FldOff Tryd.prog 234 1 2 := by
  obtain ⟨i, hi, hs, _⟩ := ty32.i
  exact ⟨_, _, i, Tryd.underlying234, rfl, rfl, hi, by rw [hs]; decide⟩
theorem mixed : Tryd.prog.follows .mixedOrders = true := by kernel_rfl
end Go.Lu
