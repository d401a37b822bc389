import Derived.Test.YtomggfibpbaodaaGreatDoorR3
import Derived.Test.YtomggfibpbaodaaGreatDoorCA
namespace Go.Proofs.YtomggfibpbaodaaGreatDoor
open Go.V
-- types
instance : Plain P 3 := ⟨by kernel_rfl⟩   -- int
instance : Plain P 4 := ⟨by kernel_rfl⟩   -- bool
instance : Plain P 5 := ⟨by kernel_rfl⟩   -- int
instance : Plain P 9 := ⟨by kernel_rfl⟩   -- string
instance : Plain P 25 := ⟨by kernel_rfl⟩   -- pointer
instance : Plain P 26 := ⟨by kernel_rfl⟩   -- pointer
instance : Plain P 27 := ⟨by kernel_rfl⟩   -- pointer
instance : Plain P 37 := ⟨by kernel_rfl⟩   -- slice
instance : Plain P 43 := ⟨by kernel_rfl⟩   -- slice
instance : Plain P 48 := ⟨by kernel_rfl⟩   -- slice
instance : Plain P 52 := ⟨by kernel_rfl⟩   -- slice
instance : Plain P 65 := ⟨by kernel_rfl⟩   -- slice
instance : Plain P 153 := ⟨by kernel_rfl⟩   -- slice
instance : Plain P 172 := ⟨by kernel_rfl⟩   -- map
instance : Plain P 181 := ⟨by kernel_rfl⟩   -- slice
instance : Plain P 182 := ⟨by kernel_rfl⟩   -- slice
instance : Plain P 189 := ⟨by kernel_rfl⟩   -- pointer
instance : Plain P 190 := ⟨by kernel_rfl⟩   -- map
instance : Plain P 191 := ⟨by kernel_rfl⟩   -- map
instance : Plain P 335 := ⟨by kernel_rfl⟩   -- pointer
instance : Agg P 31 4 := ⟨by kernel_rfl⟩
instance : Agg P 41 2 := ⟨by kernel_rfl⟩
instance : Agg P 54 2 := ⟨by kernel_rfl⟩
instance : Agg P 155 3 := ⟨by kernel_rfl⟩
instance : Agg P 157 5 := ⟨by kernel_rfl⟩
instance : Agg P 159 4 := ⟨by kernel_rfl⟩
instance : Agg P 180 2 := ⟨by kernel_rfl⟩
instance : Agg P 184 2 := ⟨by kernel_rfl⟩
instance : Agg P 188 4 := ⟨by kernel_rfl⟩
instance : Agg P 195 512 := ⟨by kernel_rfl⟩
instance : Agg P 202 512 := ⟨by kernel_rfl⟩
instance : Agg P 278 513 := ⟨by kernel_rfl⟩
instance : Agg P 283 3 := ⟨by kernel_rfl⟩
instance : Agg P 324 256 := ⟨by kernel_rfl⟩
instance : Agg P 329 512 := ⟨by kernel_rfl⟩
instance : SliceT P 22 31 4 := ⟨by kernel_rfl, by kernel_rfl, by kernel_rfl⟩
instance : SliceT P 37 41 2 := ⟨by kernel_rfl, by kernel_rfl, by kernel_rfl⟩
instance : SliceT P 43 5 1 := ⟨by kernel_rfl, by kernel_rfl, by kernel_rfl⟩
instance : SliceT P 48 3 1 := ⟨by kernel_rfl, by kernel_rfl, by kernel_rfl⟩
instance : SliceT P 52 180 2 := ⟨by kernel_rfl, by kernel_rfl, by kernel_rfl⟩
instance : SliceT P 59 43 1 := ⟨by kernel_rfl, by kernel_rfl, by kernel_rfl⟩
instance : SliceT P 65 4 1 := ⟨by kernel_rfl, by kernel_rfl, by kernel_rfl⟩
instance : SliceT P 150 157 5 := ⟨by kernel_rfl, by kernel_rfl, by kernel_rfl⟩
instance : SliceT P 153 159 4 := ⟨by kernel_rfl, by kernel_rfl, by kernel_rfl⟩
instance : SliceT P 181 202 512 := ⟨by kernel_rfl, by kernel_rfl, by kernel_rfl⟩
instance : SliceT P 182 278 513 := ⟨by kernel_rfl, by kernel_rfl, by kernel_rfl⟩
instance : SliceT P 370 153 1 := ⟨by kernel_rfl, by kernel_rfl, by kernel_rfl⟩
instance : SliceT P 372 48 1 := ⟨by kernel_rfl, by kernel_rfl, by kernel_rfl⟩
instance (priority := 2000) {b : Nat} {w : World} : Rn P (Instr.fieldAt 31 (.pointer (some ⟨b, 0, none⟩)) 0) w (.pointer (some ⟨b, 0, none⟩)) w := ⟨by kernel_rfl⟩   -- Kind
instance {b o : Nat} {w : World} : Rn P (Instr.fieldAt 31 (.pointer (some ⟨b, o, none⟩)) 0) w (.pointer (some ⟨b, o, none⟩)) w := ⟨by kernel_rfl⟩
instance (priority := 2000) {b : Nat} {w : World} : Rn P (Instr.fieldAt 31 (.pointer (some ⟨b, 0, none⟩)) 1) w (.pointer (some ⟨b, 1, none⟩)) w := ⟨by kernel_rfl⟩   -- Key
instance {b o : Nat} {w : World} : Rn P (Instr.fieldAt 31 (.pointer (some ⟨b, o, none⟩)) 1) w (.pointer (some ⟨b, o + 1, none⟩)) w := ⟨by kernel_rfl⟩
instance (priority := 2000) {b : Nat} {w : World} : Rn P (Instr.fieldAt 31 (.pointer (some ⟨b, 0, none⟩)) 2) w (.pointer (some ⟨b, 2, none⟩)) w := ⟨by kernel_rfl⟩   -- Value
instance {b o : Nat} {w : World} : Rn P (Instr.fieldAt 31 (.pointer (some ⟨b, o, none⟩)) 2) w (.pointer (some ⟨b, o + 2, none⟩)) w := ⟨by kernel_rfl⟩
instance (priority := 2000) {b : Nat} {w : World} : Rn P (Instr.fieldAt 31 (.pointer (some ⟨b, 0, none⟩)) 3) w (.pointer (some ⟨b, 3, none⟩)) w := ⟨by kernel_rfl⟩   -- Many
instance {b o : Nat} {w : World} : Rn P (Instr.fieldAt 31 (.pointer (some ⟨b, o, none⟩)) 3) w (.pointer (some ⟨b, o + 3, none⟩)) w := ⟨by kernel_rfl⟩
instance (priority := 2000) {b : Nat} {w : World} : Rn P (Instr.fieldAt 41 (.pointer (some ⟨b, 0, none⟩)) 0) w (.pointer (some ⟨b, 0, none⟩)) w := ⟨by kernel_rfl⟩   -- Key
instance {b o : Nat} {w : World} : Rn P (Instr.fieldAt 41 (.pointer (some ⟨b, o, none⟩)) 0) w (.pointer (some ⟨b, o, none⟩)) w := ⟨by kernel_rfl⟩
instance (priority := 2000) {b : Nat} {w : World} : Rn P (Instr.fieldAt 41 (.pointer (some ⟨b, 0, none⟩)) 1) w (.pointer (some ⟨b, 1, none⟩)) w := ⟨by kernel_rfl⟩   -- Value
instance {b o : Nat} {w : World} : Rn P (Instr.fieldAt 41 (.pointer (some ⟨b, o, none⟩)) 1) w (.pointer (some ⟨b, o + 1, none⟩)) w := ⟨by kernel_rfl⟩
instance (priority := 2000) {b : Nat} {w : World} : Rn P (Instr.fieldAt 54 (.pointer (some ⟨b, 0, none⟩)) 0) w (.pointer (some ⟨b, 0, none⟩)) w := ⟨by kernel_rfl⟩   -- Now
instance {b o : Nat} {w : World} : Rn P (Instr.fieldAt 54 (.pointer (some ⟨b, o, none⟩)) 0) w (.pointer (some ⟨b, o, none⟩)) w := ⟨by kernel_rfl⟩
instance (priority := 2000) {b : Nat} {w : World} : Rn P (Instr.fieldAt 54 (.pointer (some ⟨b, 0, none⟩)) 1) w (.pointer (some ⟨b, 1, none⟩)) w := ⟨by kernel_rfl⟩   -- Kept
instance {b o : Nat} {w : World} : Rn P (Instr.fieldAt 54 (.pointer (some ⟨b, o, none⟩)) 1) w (.pointer (some ⟨b, o + 1, none⟩)) w := ⟨by kernel_rfl⟩
instance (priority := 2000) {b : Nat} {w : World} : Rn P (Instr.fieldAt 155 (.pointer (some ⟨b, 0, none⟩)) 0) w (.pointer (some ⟨b, 0, none⟩)) w := ⟨by kernel_rfl⟩   -- Leaf
instance {b o : Nat} {w : World} : Rn P (Instr.fieldAt 155 (.pointer (some ⟨b, o, none⟩)) 0) w (.pointer (some ⟨b, o, none⟩)) w := ⟨by kernel_rfl⟩
instance (priority := 2000) {b : Nat} {w : World} : Rn P (Instr.fieldAt 155 (.pointer (some ⟨b, 0, none⟩)) 1) w (.pointer (some ⟨b, 1, none⟩)) w := ⟨by kernel_rfl⟩   -- Cells
instance {b o : Nat} {w : World} : Rn P (Instr.fieldAt 155 (.pointer (some ⟨b, o, none⟩)) 1) w (.pointer (some ⟨b, o + 1, none⟩)) w := ⟨by kernel_rfl⟩
instance (priority := 2000) {b : Nat} {w : World} : Rn P (Instr.fieldAt 155 (.pointer (some ⟨b, 0, none⟩)) 2) w (.pointer (some ⟨b, 2, none⟩)) w := ⟨by kernel_rfl⟩   -- Kids
instance {b o : Nat} {w : World} : Rn P (Instr.fieldAt 155 (.pointer (some ⟨b, o, none⟩)) 2) w (.pointer (some ⟨b, o + 2, none⟩)) w := ⟨by kernel_rfl⟩
instance (priority := 2000) {b : Nat} {w : World} : Rn P (Instr.fieldAt 157 (.pointer (some ⟨b, 0, none⟩)) 0) w (.pointer (some ⟨b, 0, none⟩)) w := ⟨by kernel_rfl⟩   -- page
instance {b o : Nat} {w : World} : Rn P (Instr.fieldAt 157 (.pointer (some ⟨b, o, none⟩)) 0) w (.pointer (some ⟨b, o, none⟩)) w := ⟨by kernel_rfl⟩
instance (priority := 2000) {b : Nat} {w : World} : Rn P (Instr.fieldAt 157 (.pointer (some ⟨b, 0, none⟩)) 1) w (.pointer (some ⟨b, 1, none⟩)) w := ⟨by kernel_rfl⟩   -- at
instance {b o : Nat} {w : World} : Rn P (Instr.fieldAt 157 (.pointer (some ⟨b, o, none⟩)) 1) w (.pointer (some ⟨b, o + 1, none⟩)) w := ⟨by kernel_rfl⟩
instance (priority := 2000) {b : Nat} {w : World} : Rn P (Instr.fieldAt 157 (.pointer (some ⟨b, 0, none⟩)) 2) w (.pointer (some ⟨b, 2, none⟩)) w := ⟨by kernel_rfl⟩   -- n
instance {b o : Nat} {w : World} : Rn P (Instr.fieldAt 157 (.pointer (some ⟨b, o, none⟩)) 2) w (.pointer (some ⟨b, o + 2, none⟩)) w := ⟨by kernel_rfl⟩
instance (priority := 2000) {b : Nat} {w : World} : Rn P (Instr.fieldAt 159 (.pointer (some ⟨b, 0, none⟩)) 0) w (.pointer (some ⟨b, 0, none⟩)) w := ⟨by kernel_rfl⟩   -- Key
instance {b o : Nat} {w : World} : Rn P (Instr.fieldAt 159 (.pointer (some ⟨b, o, none⟩)) 0) w (.pointer (some ⟨b, o, none⟩)) w := ⟨by kernel_rfl⟩
instance (priority := 2000) {b : Nat} {w : World} : Rn P (Instr.fieldAt 159 (.pointer (some ⟨b, 0, none⟩)) 1) w (.pointer (some ⟨b, 1, none⟩)) w := ⟨by kernel_rfl⟩   -- Value
instance {b o : Nat} {w : World} : Rn P (Instr.fieldAt 159 (.pointer (some ⟨b, o, none⟩)) 1) w (.pointer (some ⟨b, o + 1, none⟩)) w := ⟨by kernel_rfl⟩
instance (priority := 2000) {b : Nat} {w : World} : Rn P (Instr.fieldAt 159 (.pointer (some ⟨b, 0, none⟩)) 2) w (.pointer (some ⟨b, 2, none⟩)) w := ⟨by kernel_rfl⟩   -- Long
instance {b o : Nat} {w : World} : Rn P (Instr.fieldAt 159 (.pointer (some ⟨b, o, none⟩)) 2) w (.pointer (some ⟨b, o + 2, none⟩)) w := ⟨by kernel_rfl⟩
instance (priority := 2000) {b : Nat} {w : World} : Rn P (Instr.fieldAt 159 (.pointer (some ⟨b, 0, none⟩)) 3) w (.pointer (some ⟨b, 3, none⟩)) w := ⟨by kernel_rfl⟩   -- Size
instance {b o : Nat} {w : World} : Rn P (Instr.fieldAt 159 (.pointer (some ⟨b, o, none⟩)) 3) w (.pointer (some ⟨b, o + 3, none⟩)) w := ⟨by kernel_rfl⟩
instance (priority := 2000) {b : Nat} {w : World} : Rn P (Instr.fieldAt 165 (.pointer (some ⟨b, 0, none⟩)) 0) w (.pointer (some ⟨b, 0, none⟩)) w := ⟨by kernel_rfl⟩   -- p
instance {b o : Nat} {w : World} : Rn P (Instr.fieldAt 165 (.pointer (some ⟨b, o, none⟩)) 0) w (.pointer (some ⟨b, o, none⟩)) w := ⟨by kernel_rfl⟩
instance (priority := 2000) {b : Nat} {w : World} : Rn P (Instr.fieldAt 180 (.pointer (some ⟨b, 0, none⟩)) 0) w (.pointer (some ⟨b, 0, none⟩)) w := ⟨by kernel_rfl⟩   -- Key
instance {b o : Nat} {w : World} : Rn P (Instr.fieldAt 180 (.pointer (some ⟨b, o, none⟩)) 0) w (.pointer (some ⟨b, o, none⟩)) w := ⟨by kernel_rfl⟩
instance (priority := 2000) {b : Nat} {w : World} : Rn P (Instr.fieldAt 180 (.pointer (some ⟨b, 0, none⟩)) 1) w (.pointer (some ⟨b, 1, none⟩)) w := ⟨by kernel_rfl⟩   -- Value
instance {b o : Nat} {w : World} : Rn P (Instr.fieldAt 180 (.pointer (some ⟨b, o, none⟩)) 1) w (.pointer (some ⟨b, o + 1, none⟩)) w := ⟨by kernel_rfl⟩
instance (priority := 2000) {b : Nat} {w : World} : Rn P (Instr.fieldAt 184 (.pointer (some ⟨b, 0, none⟩)) 1) w (.pointer (some ⟨b, 1, none⟩)) w := ⟨by kernel_rfl⟩   -- left
instance {b o : Nat} {w : World} : Rn P (Instr.fieldAt 184 (.pointer (some ⟨b, o, none⟩)) 1) w (.pointer (some ⟨b, o + 1, none⟩)) w := ⟨by kernel_rfl⟩
instance (priority := 2000) {b : Nat} {w : World} : Rn P (Instr.fieldAt 186 (.pointer (some ⟨b, 0, none⟩)) 0) w (.pointer (some ⟨b, 0, none⟩)) w := ⟨by kernel_rfl⟩   -- lasts
instance {b o : Nat} {w : World} : Rn P (Instr.fieldAt 186 (.pointer (some ⟨b, o, none⟩)) 0) w (.pointer (some ⟨b, o, none⟩)) w := ⟨by kernel_rfl⟩
instance (priority := 2000) {b : Nat} {w : World} : Rn P (Instr.fieldAt 186 (.pointer (some ⟨b, 0, none⟩)) 1) w (.pointer (some ⟨b, 1, none⟩)) w := ⟨by kernel_rfl⟩   -- waits
instance {b o : Nat} {w : World} : Rn P (Instr.fieldAt 186 (.pointer (some ⟨b, o, none⟩)) 1) w (.pointer (some ⟨b, o + 1, none⟩)) w := ⟨by kernel_rfl⟩
instance (priority := 2000) {b : Nat} {w : World} : Rn P (Instr.fieldAt 186 (.pointer (some ⟨b, 0, none⟩)) 2) w (.pointer (some ⟨b, 2, none⟩)) w := ⟨by kernel_rfl⟩   -- now
instance {b o : Nat} {w : World} : Rn P (Instr.fieldAt 186 (.pointer (some ⟨b, o, none⟩)) 2) w (.pointer (some ⟨b, o + 2, none⟩)) w := ⟨by kernel_rfl⟩
instance (priority := 2000) {b : Nat} {w : World} : Rn P (Instr.fieldAt 186 (.pointer (some ⟨b, 0, none⟩)) 3) w (.pointer (some ⟨b, 3, none⟩)) w := ⟨by kernel_rfl⟩   -- done
instance {b o : Nat} {w : World} : Rn P (Instr.fieldAt 186 (.pointer (some ⟨b, o, none⟩)) 3) w (.pointer (some ⟨b, o + 3, none⟩)) w := ⟨by kernel_rfl⟩
instance (priority := 2000) {b : Nat} {w : World} : Rn P (Instr.fieldAt 186 (.pointer (some ⟨b, 0, none⟩)) 4) w (.pointer (some ⟨b, 4, none⟩)) w := ⟨by kernel_rfl⟩   -- dead
instance {b o : Nat} {w : World} : Rn P (Instr.fieldAt 186 (.pointer (some ⟨b, o, none⟩)) 4) w (.pointer (some ⟨b, o + 4, none⟩)) w := ⟨by kernel_rfl⟩
instance (priority := 2000) {b : Nat} {w : World} : Rn P (Instr.fieldAt 186 (.pointer (some ⟨b, 0, none⟩)) 5) w (.pointer (some ⟨b, 5, none⟩)) w := ⟨by kernel_rfl⟩   -- fuse
instance {b o : Nat} {w : World} : Rn P (Instr.fieldAt 186 (.pointer (some ⟨b, o, none⟩)) 5) w (.pointer (some ⟨b, o + 5, none⟩)) w := ⟨by kernel_rfl⟩
instance (priority := 2000) {b : Nat} {w : World} : Rn P (Instr.fieldAt 186 (.pointer (some ⟨b, 0, none⟩)) 6) w (.pointer (some ⟨b, 7, none⟩)) w := ⟨by kernel_rfl⟩   -- keep
instance {b o : Nat} {w : World} : Rn P (Instr.fieldAt 186 (.pointer (some ⟨b, o, none⟩)) 6) w (.pointer (some ⟨b, o + 7, none⟩)) w := ⟨by kernel_rfl⟩
instance (priority := 2000) {b : Nat} {w : World} : Rn P (Instr.fieldAt 188 (.pointer (some ⟨b, 0, none⟩)) 0) w (.pointer (some ⟨b, 0, none⟩)) w := ⟨by kernel_rfl⟩   -- root
instance {b o : Nat} {w : World} : Rn P (Instr.fieldAt 188 (.pointer (some ⟨b, o, none⟩)) 0) w (.pointer (some ⟨b, o, none⟩)) w := ⟨by kernel_rfl⟩
instance (priority := 2000) {b : Nat} {w : World} : Rn P (Instr.fieldAt 188 (.pointer (some ⟨b, 0, none⟩)) 1) w (.pointer (some ⟨b, 1, none⟩)) w := ⟨by kernel_rfl⟩   -- used
instance {b o : Nat} {w : World} : Rn P (Instr.fieldAt 188 (.pointer (some ⟨b, o, none⟩)) 1) w (.pointer (some ⟨b, o + 1, none⟩)) w := ⟨by kernel_rfl⟩
instance (priority := 2000) {b : Nat} {w : World} : Rn P (Instr.fieldAt 188 (.pointer (some ⟨b, 0, none⟩)) 2) w (.pointer (some ⟨b, 2, none⟩)) w := ⟨by kernel_rfl⟩   -- head
instance {b o : Nat} {w : World} : Rn P (Instr.fieldAt 188 (.pointer (some ⟨b, o, none⟩)) 2) w (.pointer (some ⟨b, o + 2, none⟩)) w := ⟨by kernel_rfl⟩
instance (priority := 2000) {b : Nat} {w : World} : Rn P (Instr.fieldAt 188 (.pointer (some ⟨b, 0, none⟩)) 3) w (.pointer (some ⟨b, 3, none⟩)) w := ⟨by kernel_rfl⟩   -- free
instance {b o : Nat} {w : World} : Rn P (Instr.fieldAt 188 (.pointer (some ⟨b, o, none⟩)) 3) w (.pointer (some ⟨b, o + 3, none⟩)) w := ⟨by kernel_rfl⟩
instance (priority := 2000) {b : Nat} {w : World} : Rn P (Instr.fieldAt 193 (.pointer (some ⟨b, 0, none⟩)) 0) w (.pointer (some ⟨b, 0, none⟩)) w := ⟨by kernel_rfl⟩   -- d
instance {b o : Nat} {w : World} : Rn P (Instr.fieldAt 193 (.pointer (some ⟨b, o, none⟩)) 0) w (.pointer (some ⟨b, o, none⟩)) w := ⟨by kernel_rfl⟩
instance (priority := 2000) {b : Nat} {w : World} : Rn P (Instr.fieldAt 193 (.pointer (some ⟨b, 0, none⟩)) 1) w (.pointer (some ⟨b, 1, none⟩)) w := ⟨by kernel_rfl⟩   -- log
instance {b o : Nat} {w : World} : Rn P (Instr.fieldAt 193 (.pointer (some ⟨b, o, none⟩)) 1) w (.pointer (some ⟨b, o + 1, none⟩)) w := ⟨by kernel_rfl⟩
instance (priority := 2000) {b : Nat} {w : World} : Rn P (Instr.fieldAt 193 (.pointer (some ⟨b, 0, none⟩)) 2) w (.pointer (some ⟨b, 2, none⟩)) w := ⟨by kernel_rfl⟩   -- first
instance {b o : Nat} {w : World} : Rn P (Instr.fieldAt 193 (.pointer (some ⟨b, o, none⟩)) 2) w (.pointer (some ⟨b, o + 2, none⟩)) w := ⟨by kernel_rfl⟩
instance (priority := 2000) {b : Nat} {w : World} : Rn P (Instr.fieldAt 193 (.pointer (some ⟨b, 0, none⟩)) 3) w (.pointer (some ⟨b, 3, none⟩)) w := ⟨by kernel_rfl⟩   -- pages
instance {b o : Nat} {w : World} : Rn P (Instr.fieldAt 193 (.pointer (some ⟨b, o, none⟩)) 3) w (.pointer (some ⟨b, o + 3, none⟩)) w := ⟨by kernel_rfl⟩
instance (priority := 2000) {b : Nat} {w : World} : Rn P (Instr.fieldAt 193 (.pointer (some ⟨b, 0, none⟩)) 4) w (.pointer (some ⟨b, 4, none⟩)) w := ⟨by kernel_rfl⟩   -- dirty
instance {b o : Nat} {w : World} : Rn P (Instr.fieldAt 193 (.pointer (some ⟨b, o, none⟩)) 4) w (.pointer (some ⟨b, o + 4, none⟩)) w := ⟨by kernel_rfl⟩
instance (priority := 2000) {b : Nat} {w : World} : Rn P (Instr.fieldAt 193 (.pointer (some ⟨b, 0, none⟩)) 5) w (.pointer (some ⟨b, 5, none⟩)) w := ⟨by kernel_rfl⟩   -- now
instance {b o : Nat} {w : World} : Rn P (Instr.fieldAt 193 (.pointer (some ⟨b, o, none⟩)) 5) w (.pointer (some ⟨b, o + 5, none⟩)) w := ⟨by kernel_rfl⟩
instance (priority := 2000) {b : Nat} {w : World} : Rn P (Instr.fieldAt 193 (.pointer (some ⟨b, 0, none⟩)) 6) w (.pointer (some ⟨b, 6, none⟩)) w := ⟨by kernel_rfl⟩   -- kept
instance {b o : Nat} {w : World} : Rn P (Instr.fieldAt 193 (.pointer (some ⟨b, o, none⟩)) 6) w (.pointer (some ⟨b, o + 6, none⟩)) w := ⟨by kernel_rfl⟩
instance (priority := 2000) {b : Nat} {w : World} : Rn P (Instr.fieldAt 193 (.pointer (some ⟨b, 0, none⟩)) 7) w (.pointer (some ⟨b, 10, none⟩)) w := ⟨by kernel_rfl⟩   -- m
instance {b o : Nat} {w : World} : Rn P (Instr.fieldAt 193 (.pointer (some ⟨b, o, none⟩)) 7) w (.pointer (some ⟨b, o + 10, none⟩)) w := ⟨by kernel_rfl⟩
instance (priority := 2000) {b : Nat} {w : World} : Rn P (Instr.fieldAt 193 (.pointer (some ⟨b, 0, none⟩)) 8) w (.pointer (some ⟨b, 14, none⟩)) w := ⟨by kernel_rfl⟩   -- idle
instance {b o : Nat} {w : World} : Rn P (Instr.fieldAt 193 (.pointer (some ⟨b, o, none⟩)) 8) w (.pointer (some ⟨b, o + 14, none⟩)) w := ⟨by kernel_rfl⟩
instance (priority := 2000) {b : Nat} {w : World} : Rn P (Instr.fieldAt 193 (.pointer (some ⟨b, 0, none⟩)) 9) w (.pointer (some ⟨b, 15, none⟩)) w := ⟨by kernel_rfl⟩   -- count
instance {b o : Nat} {w : World} : Rn P (Instr.fieldAt 193 (.pointer (some ⟨b, o, none⟩)) 9) w (.pointer (some ⟨b, o + 15, none⟩)) w := ⟨by kernel_rfl⟩
instance (priority := 2000) {b : Nat} {w : World} : Rn P (Instr.fieldAt 278 (.pointer (some ⟨b, 0, none⟩)) 0) w (.pointer (some ⟨b, 0, none⟩)) w := ⟨by kernel_rfl⟩   -- at
instance {b o : Nat} {w : World} : Rn P (Instr.fieldAt 278 (.pointer (some ⟨b, o, none⟩)) 0) w (.pointer (some ⟨b, o, none⟩)) w := ⟨by kernel_rfl⟩
instance (priority := 2000) {b : Nat} {w : World} : Rn P (Instr.fieldAt 278 (.pointer (some ⟨b, 0, none⟩)) 1) w (.pointer (some ⟨b, 1, none⟩)) w := ⟨by kernel_rfl⟩   -- what
instance {b o : Nat} {w : World} : Rn P (Instr.fieldAt 278 (.pointer (some ⟨b, o, none⟩)) 1) w (.pointer (some ⟨b, o + 1, none⟩)) w := ⟨by kernel_rfl⟩
instance (priority := 2000) {b : Nat} {w : World} : Rn P (Instr.fieldAt 281 (.pointer (some ⟨b, 0, none⟩)) 0) w (.pointer (some ⟨b, 0, none⟩)) w := ⟨by kernel_rfl⟩   -- d
instance {b o : Nat} {w : World} : Rn P (Instr.fieldAt 281 (.pointer (some ⟨b, o, none⟩)) 0) w (.pointer (some ⟨b, o, none⟩)) w := ⟨by kernel_rfl⟩
instance (priority := 2000) {b : Nat} {w : World} : Rn P (Instr.fieldAt 281 (.pointer (some ⟨b, 0, none⟩)) 1) w (.pointer (some ⟨b, 1, none⟩)) w := ⟨by kernel_rfl⟩   -- first
instance {b o : Nat} {w : World} : Rn P (Instr.fieldAt 281 (.pointer (some ⟨b, o, none⟩)) 1) w (.pointer (some ⟨b, o + 1, none⟩)) w := ⟨by kernel_rfl⟩
instance (priority := 2000) {b : Nat} {w : World} : Rn P (Instr.fieldAt 281 (.pointer (some ⟨b, 0, none⟩)) 2) w (.pointer (some ⟨b, 2, none⟩)) w := ⟨by kernel_rfl⟩   -- count
instance {b o : Nat} {w : World} : Rn P (Instr.fieldAt 281 (.pointer (some ⟨b, o, none⟩)) 2) w (.pointer (some ⟨b, o + 2, none⟩)) w := ⟨by kernel_rfl⟩
instance (priority := 2000) {b : Nat} {w : World} : Rn P (Instr.fieldAt 281 (.pointer (some ⟨b, 0, none⟩)) 3) w (.pointer (some ⟨b, 3, none⟩)) w := ⟨by kernel_rfl⟩   -- base
instance {b o : Nat} {w : World} : Rn P (Instr.fieldAt 281 (.pointer (some ⟨b, o, none⟩)) 3) w (.pointer (some ⟨b, o + 3, none⟩)) w := ⟨by kernel_rfl⟩
instance (priority := 2000) {b : Nat} {w : World} : Rn P (Instr.fieldAt 281 (.pointer (some ⟨b, 0, none⟩)) 4) w (.pointer (some ⟨b, 4, none⟩)) w := ⟨by kernel_rfl⟩   -- last
instance {b o : Nat} {w : World} : Rn P (Instr.fieldAt 281 (.pointer (some ⟨b, o, none⟩)) 4) w (.pointer (some ⟨b, o + 4, none⟩)) w := ⟨by kernel_rfl⟩
instance (priority := 2000) {b : Nat} {w : World} : Rn P (Instr.fieldAt 281 (.pointer (some ⟨b, 0, none⟩)) 5) w (.pointer (some ⟨b, 5, none⟩)) w := ⟨by kernel_rfl⟩   -- top
instance {b o : Nat} {w : World} : Rn P (Instr.fieldAt 281 (.pointer (some ⟨b, o, none⟩)) 5) w (.pointer (some ⟨b, o + 5, none⟩)) w := ⟨by kernel_rfl⟩
instance (priority := 2000) {b : Nat} {w : World} : Rn P (Instr.fieldAt 283 (.pointer (some ⟨b, 0, none⟩)) 0) w (.pointer (some ⟨b, 0, none⟩)) w := ⟨by kernel_rfl⟩   -- n
instance {b o : Nat} {w : World} : Rn P (Instr.fieldAt 283 (.pointer (some ⟨b, o, none⟩)) 0) w (.pointer (some ⟨b, o, none⟩)) w := ⟨by kernel_rfl⟩
instance (priority := 2000) {b : Nat} {w : World} : Rn P (Instr.fieldAt 283 (.pointer (some ⟨b, 0, none⟩)) 1) w (.pointer (some ⟨b, 1, none⟩)) w := ⟨by kernel_rfl⟩   -- last
instance {b o : Nat} {w : World} : Rn P (Instr.fieldAt 283 (.pointer (some ⟨b, o, none⟩)) 1) w (.pointer (some ⟨b, o + 1, none⟩)) w := ⟨by kernel_rfl⟩
instance (priority := 2000) {b : Nat} {w : World} : Rn P (Instr.fieldAt 283 (.pointer (some ⟨b, 0, none⟩)) 2) w (.pointer (some ⟨b, 2, none⟩)) w := ⟨by kernel_rfl⟩   -- data
instance {b o : Nat} {w : World} : Rn P (Instr.fieldAt 283 (.pointer (some ⟨b, o, none⟩)) 2) w (.pointer (some ⟨b, o + 2, none⟩)) w := ⟨by kernel_rfl⟩
instance (priority := 2000) {b : Nat} {w : World} : Rn P (Instr.fieldAt 337 (.pointer (some ⟨b, 0, none⟩)) 0) w (.pointer (some ⟨b, 0, none⟩)) w := ⟨by kernel_rfl⟩   -- b
instance {b o : Nat} {w : World} : Rn P (Instr.fieldAt 337 (.pointer (some ⟨b, o, none⟩)) 0) w (.pointer (some ⟨b, o, none⟩)) w := ⟨by kernel_rfl⟩
instance (priority := 2000) {b : Nat} {w : World} : Rn P (Instr.fieldAt 337 (.pointer (some ⟨b, 0, none⟩)) 1) w (.pointer (some ⟨b, 1, none⟩)) w := ⟨by kernel_rfl⟩   -- failed
instance {b o : Nat} {w : World} : Rn P (Instr.fieldAt 337 (.pointer (some ⟨b, o, none⟩)) 1) w (.pointer (some ⟨b, o + 1, none⟩)) w := ⟨by kernel_rfl⟩
instance (priority := 2000) {b : Nat} {w : World} : Rn P (Instr.fieldAt 339 (.pointer (some ⟨b, 0, none⟩)) 0) w (.pointer (some ⟨b, 0, none⟩)) w := ⟨by kernel_rfl⟩   -- rest
instance {b o : Nat} {w : World} : Rn P (Instr.fieldAt 339 (.pointer (some ⟨b, o, none⟩)) 0) w (.pointer (some ⟨b, o, none⟩)) w := ⟨by kernel_rfl⟩
instance : ElemT P 31 4 48 := ElemT.of (by kernel_rfl)
instance : ElemT P 41 2 32 := ElemT.of (by kernel_rfl)
instance : ElemT P 5 1 1 := ElemT.of (by kernel_rfl)
instance : ElemT P 3 1 8 := ElemT.of (by kernel_rfl)
instance : ElemT P 180 2 32 := ElemT.of (by kernel_rfl)
instance : ElemT P 43 1 24 := ElemT.of (by kernel_rfl)
instance : ElemT P 4 1 1 := ElemT.of (by kernel_rfl)
instance : ElemT P 157 5 72 := ElemT.of (by kernel_rfl)
instance : ElemT P 159 4 48 := ElemT.of (by kernel_rfl)
instance : ElemT P 202 512 512 := ElemT.of (by kernel_rfl)
instance : ElemT P 278 513 520 := ElemT.of (by kernel_rfl)
instance : ElemT P 153 1 24 := ElemT.of (by kernel_rfl)
instance : ElemT P 48 1 24 := ElemT.of (by kernel_rfl)
-- zero of: 3:1 37:1 43:1 54:2 155:3 157:5 159:4 188:4 195:512 202:512 278:513 283:3 324:256 329:512
instance : PtrT P 25 := ⟨by kernel_rfl⟩
instance : PtrT P 26 := ⟨by kernel_rfl⟩
instance : PtrT P 27 := ⟨by kernel_rfl⟩
instance : PtrT P 189 := ⟨by kernel_rfl⟩
instance : PtrT P 288 := ⟨by kernel_rfl⟩
instance : PtrT P 335 := ⟨by kernel_rfl⟩
def zeros (n : Nat) : List Value := List.replicate n (.int .u8 0)
instance : Zero P 202 (zeros 512) := ⟨fun w => ⟨.agg (zeros 512).toArray, by kernel_rfl, rfl⟩⟩
instance : Zero P 195 (zeros 512) := ⟨fun w => ⟨.agg (zeros 512).toArray, by kernel_rfl, rfl⟩⟩
instance : Zero P 329 (zeros 512) := ⟨fun w => ⟨.agg (zeros 512).toArray, by kernel_rfl, rfl⟩⟩
instance : Zero P 278 (.int .i64 0 :: zeros 512) := ⟨fun w => ⟨.agg (.int .i64 0 :: zeros 512).toArray, by kernel_rfl, rfl⟩⟩
instance : Zero P 3 [.int .i64 0] := ⟨fun w => ⟨.int .i64 0, by kernel_rfl, rfl⟩⟩
instance : Zero P 37 [.slice none 0 0] := ⟨fun w => ⟨.slice none 0 0, by kernel_rfl, rfl⟩⟩
instance : Zero P 43 [.slice none 0 0] := ⟨fun w => ⟨.slice none 0 0, by kernel_rfl, rfl⟩⟩
instance : Zero P 54 [.slice none 0 0, .slice none 0 0] := ⟨fun w => ⟨.agg #[.slice none 0 0, .slice none 0 0], by kernel_rfl, rfl⟩⟩
instance : Zero P 155 [.bool false, .slice none 0 0, .slice none 0 0] := ⟨fun w => ⟨.agg #[.bool false, .slice none 0 0, .slice none 0 0], by kernel_rfl, rfl⟩⟩
instance : Zero P 157 [.int .i64 0, .int .i64 0, .bool false, .slice none 0 0, .slice none 0 0] := ⟨fun w => ⟨.agg #[.int .i64 0, .int .i64 0, .bool false, .slice none 0 0, .slice none 0 0], by kernel_rfl, rfl⟩⟩
instance : Zero P 159 [.string ⟨#[]⟩, .string ⟨#[]⟩, .int .i64 0, .int .i64 0] := ⟨fun w => ⟨.agg #[.string ⟨#[]⟩, .string ⟨#[]⟩, .int .i64 0, .int .i64 0], by kernel_rfl, rfl⟩⟩
instance : Zero P 188 [.int .i64 0, .int .i64 0, .int .i64 0, .int .i64 0] := ⟨fun w => ⟨.agg #[.int .i64 0, .int .i64 0, .int .i64 0, .int .i64 0], by kernel_rfl, rfl⟩⟩
instance : Zero P 283 [.int .i64 0, .bool false, .slice none 0 0] := ⟨fun w => ⟨.agg #[.int .i64 0, .bool false, .slice none 0 0], by kernel_rfl, rfl⟩⟩
instance : ArrT P 202 5 512 := ⟨by kernel_rfl, fun w => by kernel_rfl⟩
instance : ArrT P 195 5 512 := ⟨by kernel_rfl, fun w => by kernel_rfl⟩
instance : ArrT P 329 5 512 := ⟨by kernel_rfl, fun w => by kernel_rfl⟩
instance : StrT P 9 := ⟨by kernel_rfl⟩
instance : ByteE P 5 := ⟨⟨(P.info? 5).getD default, by kernel_rfl, by kernel_rfl, by kernel_rfl, by kernel_rfl⟩, by kernel_rfl⟩
instance : Zero P 5 [.int .u8 0] := ⟨fun w => ⟨.int .u8 0, by kernel_rfl, rfl⟩⟩
instance : Zero P 3 [.int .i64 0] := ⟨fun w => ⟨.int .i64 0, by kernel_rfl, rfl⟩⟩
instance : Zero P 4 [.bool false] := ⟨fun w => ⟨.bool false, by kernel_rfl, rfl⟩⟩
end Go.Proofs.YtomggfibpbaodaaGreatDoor
