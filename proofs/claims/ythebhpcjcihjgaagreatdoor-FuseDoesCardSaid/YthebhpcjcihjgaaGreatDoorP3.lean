/- The texts that the card needs, part 4. -/
import Derived.Test.YthebhpcjcihjgaaGreatDoorP2
set_option linter.all false
section
namespace Go.Proofs.YthebhpcjcihjgaaGreatDoor
open Go Go.Sl Go.Vc
set_option maxRecDepth 100000
def tyT:Tr:=(.n none (.n none (.n none (.n none (.n none (.n none (.n none .e (.n (some ⟨6,[(.int .i64 0),(.slice none 0 0),(.slice none 0 0),(.int .i64 0),(.int .u8 0),(.slice none 0 0)],(.st [(0,2,true),(2,2,true),(4,1,false),(5,1,false)])⟩) .e .e)) (.n none (.n none .e (.n (some ⟨1,[.nilFunc],.fn⟩) .e .e)) .e)) (.n none .e (.n (some ⟨1,[.nilFunc],.fn⟩) .e (.n (some ⟨64,[(.int .u64 0),(.int .u64 0),(.int .u64 0),(.int .u64 0),(.int .u64 0),(.int .u64 0),(.int .u64 0),(.int .u64 0),(.int .u64 0),(.int .u64 0),(.int .u64 0),(.int .u64 0),(.int .u64 0),(.int .u64 0),(.int .u64 0),(.int .u64 0),(.int .u64 0),(.int .u64 0),(.int .u64 0),(.int .u64 0),(.int .u64 0),(.int .u64 0),(.int .u64 0),(.int .u64 0),(.int .u64 0),(.int .u64 0),(.int .u64 0),(.int .u64 0),(.int .u64 0),(.int .u64 0),(.int .u64 0),(.int .u64 0),(.int .u64 0),(.int .u64 0),(.int .u64 0),(.int .u64 0),(.int .u64 0),(.int .u64 0),(.int .u64 0),(.int .u64 0),(.int .u64 0),(.int .u64 0),(.int .u64 0),(.int .u64 0),(.int .u64 0),(.int .u64 0),(.int .u64 0),(.int .u64 0),(.int .u64 0),(.int .u64 0),(.int .u64 0),(.int .u64 0),(.int .u64 0),(.int .u64 0),(.int .u64 0),(.int .u64 0),(.int .u64 0),(.int .u64 0),(.int .u64 0),(.int .u64 0),(.int .u64 0),(.int .u64 0),(.int .u64 0),(.int .u64 0)],(.ar 64 41 1)⟩) .e .e)))) (.n (some ⟨4,[(.int .i64 0),(.int .i64 0),(.bool false),(.int .u8 0)],(.st [(0,1,false),(1,1,false),(2,1,false),(3,1,false)])⟩) (.n none .e (.n (some ⟨3,[(.string ⟨#[]⟩),(.slice none 0 0),(.int .i64 0)],(.st [(0,1,false),(1,2,true)])⟩) .e (.n (some ⟨1,[.nilFunc],.fn⟩) .e .e))) (.n (some ⟨1,[(.slice none 0 0)],(.st [(0,1,false)])⟩) (.n none .e (.n none .e (.n (some ⟨1,[(.pointer none)],.ptr⟩) .e .e))) (.n (some ⟨2,[.nilFunc,.nilFunc],(.st [(0,1,false),(1,1,false)])⟩) .e (.n (some ⟨1,[.nilFunc],.fn⟩) .e .e))))) (.n (some ⟨1,[(.bool false)],.bool⟩) (.n none (.n none (.n none (.n none .e (.n (some ⟨1,[.nilFunc],.fn⟩) .e .e)) (.n (some ⟨1,[.nilFunc],.fn⟩) .e (.n (some ⟨10,[.nilFunc,.nilFunc,.nilFunc,.nilFunc,.nilFunc,.nilFunc,.nilFunc,.nilFunc,.nilFunc,.nilFunc],(.ar 10 195 1)⟩) .e .e))) (.n (some ⟨1,[(.slice none 0 0)],(.sl 45 9 96)⟩) (.n none .e (.n (some ⟨3,[(.bool false),(.bool false),(.bool false)],(.st [(0,1,false),(1,1,false),(2,1,false)])⟩) .e .e)) (.n (some ⟨1,[.nilFunc],.fn⟩) .e (.n (some ⟨1,[.nilFunc],.fn⟩) .e .e)))) (.n none .e (.n (some ⟨1,[.nilFunc],.fn⟩) .e (.n (some ⟨1,[.nilFunc],.fn⟩) .e .e)))) (.n none (.n none .e (.n none .e (.n (some ⟨1,[.nilFunc],.fn⟩) .e (.n (some ⟨9,[(.int .i64 0),(.int .i64 0),(.string ⟨#[]⟩),(.int .i64 0),(.int .i64 0),(.string ⟨#[]⟩),(.int .i64 0),(.int .i64 0),(.string ⟨#[]⟩)],(.ar 3 235 3)⟩) .e .e)))) (.n none (.n none (.n none .e (.n (some ⟨1,[(.slice none 0 0)],(.sl 181 3 3)⟩) .e .e)) (.n none .e (.n (some ⟨30,[(.string ⟨#[]⟩),(.string ⟨#[]⟩),(.string ⟨#[]⟩),(.string ⟨#[]⟩),(.string ⟨#[]⟩),(.string ⟨#[]⟩),(.string ⟨#[]⟩),(.string ⟨#[]⟩),(.string ⟨#[]⟩),(.string ⟨#[]⟩),(.string ⟨#[]⟩),(.string ⟨#[]⟩),(.string ⟨#[]⟩),(.string ⟨#[]⟩),(.string ⟨#[]⟩),(.string ⟨#[]⟩),(.string ⟨#[]⟩),(.string ⟨#[]⟩),(.string ⟨#[]⟩),(.string ⟨#[]⟩),(.string ⟨#[]⟩),(.string ⟨#[]⟩),(.string ⟨#[]⟩),(.string ⟨#[]⟩),(.string ⟨#[]⟩),(.string ⟨#[]⟩),(.string ⟨#[]⟩),(.string ⟨#[]⟩),(.string ⟨#[]⟩),(.string ⟨#[]⟩)],(.ar 10 219 3)⟩) .e .e))) (.n none (.n none .e (.n (some ⟨2,[(.pointer none),(.slice none 0 0)],(.st [(0,1,false),(1,1,false)])⟩) .e .e)) .e))))) (.n (some ⟨1,[(.int .i64 0)],(.int .i64)⟩) (.n none (.n none (.n none (.n none .e (.n (some ⟨1,[.nilFunc],.fn⟩) .e .e)) (.n none .e (.n (some ⟨1,[(.map none)],(.mp 9 3)⟩) .e .e))) (.n none (.n none (.n none .e (.n (some ⟨1,[(.slice none 0 0)],(.sl 167 2 16)⟩) .e .e)) (.n none .e (.n (some ⟨1,[.nilFunc],.fn⟩) .e .e))) (.n (some ⟨1,[.nilFunc],.fn⟩) .e (.n (some ⟨66,[(.int .i64 0),(.int .u64 0),(.int .u64 0),(.int .u64 0),(.int .u64 0),(.int .u64 0),(.int .u64 0),(.int .u64 0),(.int .u64 0),(.int .u64 0),(.int .u64 0),(.int .u64 0),(.int .u64 0),(.int .u64 0),(.int .u64 0),(.int .u64 0),(.int .u64 0),(.int .u64 0),(.int .u64 0),(.int .u64 0),(.int .u64 0),(.int .u64 0),(.int .u64 0),(.int .u64 0),(.int .u64 0),(.int .u64 0),(.int .u64 0),(.int .u64 0),(.int .u64 0),(.int .u64 0),(.int .u64 0),(.int .u64 0),(.int .u64 0),(.int .u64 0),(.int .u64 0),(.int .u64 0),(.int .u64 0),(.int .u64 0),(.int .u64 0),(.int .u64 0),(.int .u64 0),(.int .u64 0),(.int .u64 0),(.int .u64 0),(.int .u64 0),(.int .u64 0),(.int .u64 0),(.int .u64 0),(.int .u64 0),(.int .u64 0),(.int .u64 0),(.int .u64 0),(.int .u64 0),(.int .u64 0),(.int .u64 0),(.int .u64 0),(.int .u64 0),(.int .u64 0),(.int .u64 0),(.int .u64 0),(.int .u64 0),(.int .u64 0),(.int .u64 0),(.int .u64 0),(.int .u64 0),(.int .u64 0)],(.st [(0,1,false),(1,64,true),(65,1,false)])⟩) .e (.n (some ⟨1,[.nilFunc],.fn⟩) .e .e))))) (.n (some ⟨1,[(.string ⟨#[]⟩)],.str⟩) (.n none (.n none .e (.n none .e (.n (some ⟨1,[(.pointer none)],.ptr⟩) .e .e))) (.n none (.n none .e (.n (some ⟨1,[.nilFunc],.fn⟩) .e .e)) (.n (some ⟨1,[.nilFunc],.fn⟩) .e .e))) (.n none .e (.n (some ⟨14,[.nilFunc,.nilFunc,.nilFunc,.nilFunc,.nilFunc,.nilFunc,.nilFunc,.nilFunc,.nilFunc,.nilFunc,.nilFunc,.nilFunc,.nilFunc,.nilFunc],(.ar 7 57 2)⟩) (.n none .e (.n (some ⟨1,[(.slice none 0 0)],(.sl 5 1 1)⟩) .e .e)) (.n (some ⟨1,[.nilFunc],.fn⟩) .e .e))))) (.n (some ⟨1,[(.int .u8 0)],(.int .u8)⟩) (.n none (.n none (.n none (.n none .e (.n (some ⟨2,[(.int .i64 0),(.int .i64 0)],(.ar 2 3 1)⟩) .e .e)) .e) (.n (some ⟨2,[(.slice none 0 0),(.int .i64 0)],(.st [(0,1,false),(1,1,false)])⟩) .e (.n (some ⟨1,[.nilFunc],.fn⟩) .e .e))) (.n (some ⟨1,[(.slice none 0 0)],(.sl 40 3 48)⟩) (.n none .e (.n none .e (.n (some ⟨3,[(.int .i64 0),(.int .i64 0),(.bool false)],(.st [(0,1,false),(1,1,false),(2,1,false)])⟩) .e .e))) (.n (some ⟨1,[.nilFunc],.fn⟩) .e (.n (some ⟨1,[.nilFunc],.fn⟩) .e .e)))) (.n none (.n none (.n none .e (.n (some ⟨1,[.nilFunc],.fn⟩) .e .e)) (.n none .e (.n (some ⟨1,[.nilFunc],.fn⟩) .e .e))) (.n (some ⟨1,[(.int .i64 0)],(.int .i64)⟩) .e (.n (some ⟨1,[(.slice none 0 0)],(.sl 38 2 32)⟩) (.n none .e (.n (some ⟨1,[.nilIface],.oth⟩) .e .e)) .e)))))) (.n (some ⟨1,[.nilFunc],.fn⟩) (.n none (.n none (.n none (.n none .e (.n none .e (.n (some ⟨1,[.nilFunc],.fn⟩) .e (.n (some ⟨2,[(.int .u8 0),(.int .u8 0)],(.ar 2 5 1)⟩) .e .e)))) (.n none (.n none .e (.n (some ⟨1,[(.int .i64 0)],(.int .i64)⟩) .e (.n (some ⟨1,[.nilFunc],.fn⟩) .e .e))) (.n (some ⟨1,[.nilFunc],.fn⟩) .e (.n (some ⟨66,[(.int .i64 0),(.int .u64 0),(.int .u64 0),(.int .u64 0),(.int .u64 0),(.int .u64 0),(.int .u64 0),(.int .u64 0),(.int .u64 0),(.int .u64 0),(.int .u64 0),(.int .u64 0),(.int .u64 0),(.int .u64 0),(.int .u64 0),(.int .u64 0),(.int .u64 0),(.int .u64 0),(.int .u64 0),(.int .u64 0),(.int .u64 0),(.int .u64 0),(.int .u64 0),(.int .u64 0),(.int .u64 0),(.int .u64 0),(.int .u64 0),(.int .u64 0),(.int .u64 0),(.int .u64 0),(.int .u64 0),(.int .u64 0),(.int .u64 0),(.int .u64 0),(.int .u64 0),(.int .u64 0),(.int .u64 0),(.int .u64 0),(.int .u64 0),(.int .u64 0),(.int .u64 0),(.int .u64 0),(.int .u64 0),(.int .u64 0),(.int .u64 0),(.int .u64 0),(.int .u64 0),(.int .u64 0),(.int .u64 0),(.int .u64 0),(.int .u64 0),(.int .u64 0),(.int .u64 0),(.int .u64 0),(.int .u64 0),(.int .u64 0),(.int .u64 0),(.int .u64 0),(.int .u64 0),(.int .u64 0),(.int .u64 0),(.int .u64 0),(.int .u64 0),(.int .u64 0),(.int .u64 0),(.int .u64 0)],(.st [(0,1,false),(1,64,true),(65,1,false)])⟩) .e (.n (some ⟨1,[.nilFunc],.fn⟩) .e .e))))) (.n (some ⟨1,[(.string ⟨#[]⟩)],.str⟩) (.n none (.n none (.n none .e (.n (some ⟨1,[(.slice none 0 0)],(.sl 164 3 3)⟩) .e .e)) .e) (.n (some ⟨1,[(.int .u64 0)],(.int .u64)⟩) (.n none .e (.n (some ⟨1,[(.slice none 0 0)],(.st [(0,1,false)])⟩) .e .e)) (.n (some ⟨1,[.nilFunc],.fn⟩) .e .e))) (.n (some ⟨1,[(.slice none 0 0)],(.sl 3 1 8)⟩) (.n none (.n none .e (.n (some ⟨1,[(.slice none 0 0)],(.sl 25 1 24)⟩) .e .e)) .e) (.n (some ⟨2,[.nilFunc,.nilFunc],(.st [(0,1,false),(1,1,false)])⟩) (.n none .e (.n (some ⟨1,[(.pointer none)],.ptr⟩) .e .e)) .e)))) (.n (some ⟨1,[(.int .u8 0)],(.int .u8)⟩) (.n none (.n none (.n none .e (.n (some ⟨2,[(.int .i64 0),(.slice none 0 0)],(.st [(0,1,false),(1,1,false)])⟩) .e .e)) (.n none .e (.n (some ⟨1,[.nilFunc],.fn⟩) .e (.n (some ⟨1,[.nilFunc],.fn⟩) .e .e)))) (.n none .e (.n (some ⟨1,[.nilFunc],.fn⟩) (.n none .e (.n (some ⟨3,[(.bool false),(.bool false),(.bool false)],(.st [(0,1,false),(1,1,false),(2,1,false)])⟩) .e .e)) (.n (some ⟨1,[.nilFunc],.fn⟩) .e (.n (some ⟨64,[(.int .u8 0),(.int .u8 0),(.int .u8 0),(.int .u8 0),(.int .u8 0),(.int .u8 0),(.int .u8 0),(.int .u8 0),(.int .u8 0),(.int .u8 0),(.int .u8 0),(.int .u8 0),(.int .u8 0),(.int .u8 0),(.int .u8 0),(.int .u8 0),(.int .u8 0),(.int .u8 0),(.int .u8 0),(.int .u8 0),(.int .u8 0),(.int .u8 0),(.int .u8 0),(.int .u8 0),(.int .u8 0),(.int .u8 0),(.int .u8 0),(.int .u8 0),(.int .u8 0),(.int .u8 0),(.int .u8 0),(.int .u8 0),(.int .u8 0),(.int .u8 0),(.int .u8 0),(.int .u8 0),(.int .u8 0),(.int .u8 0),(.int .u8 0),(.int .u8 0),(.int .u8 0),(.int .u8 0),(.int .u8 0),(.int .u8 0),(.int .u8 0),(.int .u8 0),(.int .u8 0),(.int .u8 0),(.int .u8 0),(.int .u8 0),(.int .u8 0),(.int .u8 0),(.int .u8 0),(.int .u8 0),(.int .u8 0),(.int .u8 0),(.int .u8 0),(.int .u8 0),(.int .u8 0),(.int .u8 0),(.int .u8 0),(.int .u8 0),(.int .u8 0),(.int .u8 0)],(.ar 64 5 1)⟩) .e .e))))) (.n none (.n none .e (.n (some ⟨9,[(.int .u8 0),(.int .u64 0),(.int .u64 0),(.int .u64 0),(.int .u64 0),(.string ⟨#[]⟩),(.int .i64 0),(.int .i64 0),(.slice none 0 0)],(.st [(0,1,false),(1,4,true),(5,1,false),(6,1,false),(7,1,false),(8,1,false)])⟩) (.n none .e (.n (some ⟨1,[(.pointer none)],.ptr⟩) .e .e)) (.n (some ⟨1,[.nilFunc],.fn⟩) .e .e))) (.n (some ⟨1,[.nilFunc],.fn⟩) (.n none .e (.n none .e (.n (some ⟨1,[(.pointer none)],.oth⟩) .e .e))) (.n (some ⟨2,[(.int .i64 0),(.slice none 0 0)],(.st [(0,1,false),(1,1,false)])⟩) .e .e))))) (.n (some ⟨1,[(.int .i64 0)],(.int .i64)⟩) (.n none (.n none (.n none (.n none .e (.n none .e (.n (some ⟨1,[.nilFunc],.fn⟩) .e .e))) .e) (.n none (.n none .e (.n (some ⟨4,[(.slice none 0 0),(.int .i64 0),(.int .i64 0),(.int .i64 0)],(.st [(0,2,true),(2,1,false),(3,1,false)])⟩) .e .e)) (.n (some ⟨1,[.nilFunc],.fn⟩) .e .e))) (.n (some ⟨1,[(.string ⟨#[]⟩)],.str⟩) (.n none (.n none .e (.n none .e (.n (some ⟨1,[(.slice none 0 0)],(.sl 9 1 16)⟩) .e .e))) (.n (some ⟨4,[(.int .u64 0),(.int .u64 0),(.int .u64 0),(.int .u64 0)],(.ar 4 41 1)⟩) (.n none .e (.n (some ⟨10,[.nilFunc,.nilFunc,.nilFunc,.nilFunc,.nilFunc,.nilFunc,.nilFunc,.nilFunc,.nilFunc,.nilFunc],(.ar 10 170 1)⟩) .e .e)) (.n (some ⟨1,[(.slice none 0 0)],(.sl 4 1 1)⟩) .e (.n (some ⟨3,[(.int .i64 0),(.int .i64 0),(.string ⟨#[]⟩)],(.st [(0,1,false),(1,1,false),(2,1,false)])⟩) .e .e)))) (.n (some ⟨5,[(.int .u8 0),(.int .u8 0),(.int .i64 0),(.slice none 0 0),(.int .i64 0)],(.st [(0,1,false),(1,1,false),(2,1,false),(3,1,false),(4,1,false)])⟩) (.n none .e (.n none .e (.n (some ⟨3,[(.string ⟨#[]⟩),(.string ⟨#[]⟩),(.string ⟨#[]⟩)],(.st [(0,1,false),(1,1,false),(2,1,false)])⟩) .e .e))) .e))) (.n (some ⟨4,[(.int .i64 0),(.int .i64 0),(.bool false),(.int .u8 0)],(.st [(0,1,false),(1,1,false),(2,1,false),(3,1,false)])⟩) (.n none (.n none (.n none (.n none .e (.n (some ⟨20,[(.int .i64 0),(.int .i64 0),(.int .i64 0),(.int .i64 0),(.int .i64 0),(.int .i64 0),(.int .i64 0),(.int .i64 0),(.int .i64 0),(.int .i64 0),(.int .i64 0),(.int .i64 0),(.int .i64 0),(.int .i64 0),(.int .i64 0),(.int .i64 0),(.int .i64 0),(.int .i64 0),(.int .i64 0),(.int .i64 0)],(.ar 10 134 2)⟩) .e .e)) .e) (.n none (.n none .e (.n (some ⟨2,[(.int .i64 0),(.int .i64 0)],(.st [(0,1,false),(1,1,false)])⟩) .e .e)) (.n (some ⟨1,[.nilFunc],.fn⟩) .e .e))) (.n none (.n none .e (.n none .e (.n (some ⟨1,[(.slice none 0 0)],(.sl 214 3 24)⟩) .e .e))) (.n (some ⟨1,[.nilFunc],.fn⟩) .e (.n (some ⟨1,[.nilFunc],.fn⟩) .e (.n (some ⟨24,[(.int .u8 0),(.int .u8 0),(.int .u8 0),(.int .u8 0),(.int .u8 0),(.int .u8 0),(.int .u8 0),(.int .u8 0),(.int .u8 0),(.int .u8 0),(.int .u8 0),(.int .u8 0),(.int .u8 0),(.int .u8 0),(.int .u8 0),(.int .u8 0),(.int .u8 0),(.int .u8 0),(.int .u8 0),(.int .u8 0),(.int .u8 0),(.int .u8 0),(.int .u8 0),(.int .u8 0)],(.ar 24 5 1)⟩) .e .e))))) (.n none (.n none (.n none (.n none .e (.n (some ⟨1,[.nilFunc],.fn⟩) .e .e)) (.n none .e (.n (some ⟨1,[.nilFunc],.fn⟩) .e .e))) (.n none .e (.n (some ⟨64,[(.int .u64 0),(.int .u64 0),(.int .u64 0),(.int .u64 0),(.int .u64 0),(.int .u64 0),(.int .u64 0),(.int .u64 0),(.int .u64 0),(.int .u64 0),(.int .u64 0),(.int .u64 0),(.int .u64 0),(.int .u64 0),(.int .u64 0),(.int .u64 0),(.int .u64 0),(.int .u64 0),(.int .u64 0),(.int .u64 0),(.int .u64 0),(.int .u64 0),(.int .u64 0),(.int .u64 0),(.int .u64 0),(.int .u64 0),(.int .u64 0),(.int .u64 0),(.int .u64 0),(.int .u64 0),(.int .u64 0),(.int .u64 0),(.int .u64 0),(.int .u64 0),(.int .u64 0),(.int .u64 0),(.int .u64 0),(.int .u64 0),(.int .u64 0),(.int .u64 0),(.int .u64 0),(.int .u64 0),(.int .u64 0),(.int .u64 0),(.int .u64 0),(.int .u64 0),(.int .u64 0),(.int .u64 0),(.int .u64 0),(.int .u64 0),(.int .u64 0),(.int .u64 0),(.int .u64 0),(.int .u64 0),(.int .u64 0),(.int .u64 0),(.int .u64 0),(.int .u64 0),(.int .u64 0),(.int .u64 0),(.int .u64 0),(.int .u64 0),(.int .u64 0),(.int .u64 0)],(.ar 64 41 1)⟩) .e (.n (some ⟨1,[(.int .u64 0)],(.int .u64)⟩) .e .e)))) (.n none (.n none .e (.n none .e (.n (some ⟨1,[(.slice none 0 0)],(.sl 225 2 2)⟩) .e .e))) .e))))))
def tyE:TE:=tyT.get
theorem AR:∀t i,tyE t=some i→TOk Tryz.prog t i:=Tr.raw (tr:=tyT) (by kernel_rfl)
end Go.Proofs.YthebhpcjcihjgaaGreatDoor
end
section
namespace Go.Km
open Go Go.RowKit Go.Vc
open Go.Sl hiding lk
def ltI(a b:Int):Bool:=match b - a with
 | .ofNat n=>!Nat.beq n 0
 | .negSucc _=>false
def leI(a b:Int):Bool:=match b - a with
 | .ofNat _=>true
 | .negSucc _=>false
def eqI(a b:Int):Bool:=match a,b with
 | .ofNat m,.ofNat n=>Nat.beq m n
 | .negSucc m,.negSucc n=>Nat.beq m n
 | _,_=>false
def I3(n:Int):Bool:=match n with
 | .ofNat m=>Nat.ble m 9223372036854775807
 | .negSucc m=>Nat.ble m 9223372036854775807
theorem mB(a b:Int):ltI a b=decide (a<b):=by
 unfold ltI;rw[OV,decide_eq_true_iff]
 split
 ·rename_i n h;have:b - a=(n:Int):=h
  cases n with
  | zero=>exact⟨fun e=>(by cases e),fun _=>by omega⟩
  | succ n=>exact⟨fun _=>by omega,fun _=>rfl⟩
 ·rename_i n h;have:b - a=-((n:Int)+1):=by rw[h];exact Int.negSucc_eq n
  exact⟨fun e=>(by cases e),fun _=>by omega⟩
theorem ed(a b:Int):leI a b=decide (a≤b):=by
 unfold leI;rw[OV,decide_eq_true_iff]
 split
 ·rename_i n h;have:b - a=(n:Int):=h;exact⟨fun _=>by omega,fun _=>rfl⟩
 ·rename_i n h;have:b - a=-((n:Int)+1):=by rw[h];exact Int.negSucc_eq n
  exact⟨fun e=>(by cases e),fun _=>by omega⟩
theorem dG(a b:Int):eqI a b=decide (a=b):=by
 unfold eqI;rw[OV,decide_eq_true_iff]
 cases a<;>cases b<;>simp<;>omega
theorem y7(n:Int):I3 n=true↔I64 n:=by
 unfold I3 I64
 cases n with
 | ofNat m=>simp only[Nat.ble_eq];show _↔_≤((m:Nat):Int)∧((m:Nat):Int)≤_;omega
 | negSucc m=>simp only[Nat.ble_eq];rw[Int.negSucc_eq];omega
def AP:List UInt8→List UInt8→Bool
 | [],[]=>true
 | a :: l,b :: m=>Nat.beq a.toNat b.toNat&&AP l m
 | _,_=>false
theorem zi:∀{l m:List UInt8},AP l m=true↔l=m
 | [],[]=>by simp[AP]
 | a :: l,[]=>by simp[AP]
 | [],b :: m=>by simp[AP]
 | a :: l,b :: m=>by
  simp only[AP,Oi,zi,Qd,Nat.beq_eq]
  constructor
  ·rintro⟨h,h'⟩;exact⟨UInt8.toNat_inj.1 h,h'⟩
  ·rintro⟨h,h'⟩;exact⟨by rw[h],h'⟩
def eqS(a b:ByteArray):Bool:=AP a.data.toList b.data.toList
theorem sV(a b:ByteArray):eqS a b=decide (a=b):=by
 unfold eqS;rw[OV,decide_eq_true_iff,zi]
 constructor
 ·intro h;exact Qb (QC h)
 ·rintro rfl;rfl
def szS(a:ByteArray):Nat:=a.data.toList.length
theorem jV(a:ByteArray):szS a=a.size:=rfl
def ff(a b:ByteArray):ByteArray:=⟨(a.data.toList++b.data.toList).toArray⟩
theorem xF(a b:ByteArray):ff a b=a++b:=(LW a b).symm
def gv(a:ByteArray)(l h:Nat):ByteArray:=⟨((a.data.toList.take h).drop l).toArray⟩
theorem xS(a:ByteArray)(l h:Nat):gv a l h=a.extract l h:=by
 apply Qb;apply QC;rw[ByteArray.data_extract,Array.toList_extract];unfold gv;simp[List.extract,Q8]
def xt:List Int→List Int→Bool
 | [],[]=>true
 | a :: l,b :: m=>eqI a b&&xt l m
 | _,_=>false
theorem o6:∀(l m:List Int),xt l m=decide (l=m)
 | [],[]=>rfl
 | a :: l,[]=>by simp[xt]
 | [],b :: m=>by simp[xt]
 | a :: l,b :: m=>by
  simp only[xt,o6 l m,dG,Qd];rw[OV];simp
section
variable {R:Type} {α:Type} (al:Al R)
def F6(d:D)(k:Bool→R):R:=match d with
 | .fr (.vl (.bool b))=>k b
 | _=>al.bot
def arG(k:IntKind)(n:Int)(K:D→R):R:=match k with
 | .i64=>al.au (I3 n) (K (.fr (.vl (.int .i64 n))))
 | k=>al.kC (k.wrap n) fun m=>K (.fr (.vl (.int k m)))
def kb(a b:IntKind):Bool:=match a,b with
 | .i8,.i8=>true | .i16,.i16=>true | .i32,.i32=>true | .i64,.i64=>true
 | .u8,.u8=>true | .u16,.u16=>true | .u32,.u32=>true | .u64,.u64=>true
 | _,_=>false
theorem Ge{a b:IntKind}:kb a b=true↔a=b:=by cases a<;>cases b<;>simp[kb]
def KN(op:BinOp)(ka:IntKind)(a:Int)(kb_:IntKind)(b:Int)(K:D→R):R:=match op with
 | .shl=>al.au (leI 0 b) (al.kC (ka.wrap (a * 2 ^ (min b.toNat ka.bits))) fun m=>K (.fr (.vl (.int ka m))))
 | .shr=>al.au (leI 0 b) (al.kC (a.fdiv (2 ^ (min b.toNat ka.bits))) fun m=>K (.fr (.vl (.int ka m))))
 | op=>al.au (kb ka kb_) (match op with
  | .add=>arG al ka (a+b) K
  | .sub=>arG al ka (a - b) K
  | .mul=>arG al ka (a * b) K
  | .lss=>K (.fr (.vl (.bool (ltI a b))))
  | .leq=>K (.fr (.vl (.bool (leI a b))))
  | .gtr=>K (.fr (.vl (.bool (ltI b a))))
  | .geq=>K (.fr (.vl (.bool (leI b a))))
  | .eql=>K (.fr (.vl (.bool (eqI a b))))
  | .neq=>K (.fr (.vl (.bool (!eqI a b))))
  | .quo=>al.au (!eqI b 0) (al.kC (ka.wrap (a.tdiv b)) fun m=>K (.fr (.vl (.int ka m))))
  | .rem=>al.au (!eqI b 0) (al.kC (a.tmod b) fun m=>K (.fr (.vl (.int ka m))))
  | op=>match z9 op ka a b with|some n=>al.kC n fun m=>K (.fr (.vl (.int ka m)))|none=>al.bot)
def KY(op:BinOp)(a b:ByteArray)(K:D→R):R:=match op with
 | .add=>al.au (Nat.ble (szS a+szS b) 9223372036854775807) (K (.fr (.vl (.string (ff a b)))))
 | .eql=>K (.fr (.vl (.bool (eqS a b))))
 | .neq=>K (.fr (.vl (.bool (!eqS a b))))
 | _=>al.bot
def LY(op:BinOp)(x y:D)(K:D→R):R:=match x,y with
 | .fr (.vl (.int ka a)),.fr (.vl (.int kb b))=>KN al op ka a kb b K
 | .fr (.vl (.string a)),.fr (.vl (.string b))=>KY al op a b K
 | _,_=>al.bot
def qj(a b:Bool):Bool:=match a with
 | true=>b
 | false=>!b
def KM(op:BinOp)(x y:D)(K:D→R):R:=match x,y with
 | .fr (.vl (.bool a)),.fr (.vl (.bool b))=>(match op with
  | .eql=>K (.fr (.vl (.bool (qj a b))))
  | .neq=>K (.fr (.vl (.bool (!qj a b))))
  | _=>al.bot)
 | _,_=>al.bot
def KZ(k:IntKind)(op:BinOp)(x y:D)(K:D→R):R:=match ints k x.cells,ints k y.cells with
 | some l,some m=>al.au (lj x&&lj y) (match op with
  | .eql=>K (.fr (.vl (.bool (xt l m))))
  | .neq=>K (.fr (.vl (.bool (!xt l m))))
  | _=>al.bot)
 | _,_=>al.bot
def unG(op:UnOp)(x:D)(K:D→R):R:=match op,x with
 | .not,.fr (.vl (.bool b))=>K (.fr (.vl (.bool (!b))))
 | .neg,.fr (.vl (.int k a))=>arG al k (0 - a) K
 | _,_=>al.bot
variable (E:TE) (η:Env) (t:Nat)
def G7(t':Nat)(x:D)(k:Kr R):R:=match E t' with
 | none=>al.bot
 | some i=>match x with
  | .ptr b v o=>(match η b with
   | some (.va v' _ cs)=>al.au (Nat.beq v v') (match i.k.agg with
    | true=>al.au (Nat.ble (o+i.sz) cs.length) (k (.ag ((cs.drop o).take i.sz)) [b] [])
    | false=>al.bC cs o fun d=>k d [b] [])
   | _=>al.bot)
  | .rp b v sz j o=>(match η b with
   | some (.ro v' _ sz' rows)=>al.au (Nat.beq v v'&&Nat.beq sz sz') (al.bC rows j fun r=>match i.k.agg with
    | true=>al.au (Nat.ble (o+i.sz) r.length) (k (.ag (((r.drop o).take i.sz).map .fr)) [b] [])
    | false=>al.bC r o fun d=>k (.fr d) [b] [])
   | _=>al.bot)
  | .fr (.pt sz rows j o)=>al.bC rows j fun r=>(match i.k.agg with
   | true=>al.au (Nat.ble (o+i.sz) r.length) (k (.ag (((r.drop o).take i.sz).map .fr)) [] [])
   | false=>al.bC r o fun d=>k (.fr d) [] [])
  | _=>al.bot
def AJ(t':Nat)(x y:D)(k:Kr R):R:=match E t' with
 | none=>al.bot
 | some i=>match x with
  | .ptr b v o=>(match η b with
   | some (.va v' bt cs)=>al.au (Nat.beq v v'&&Nat.beq y.cells.length i.sz&&y.cells.all D.one&&Nat.ble (o+i.sz) cs.length&&Nat.blt 0 i.sz) (k Un [b] [(b,.va v bt (setAt cs o y.cells))])
   | _=>al.bot)
  | .rp b v sz j o=>(match η b with
   | some (.ro v' e sz' rows)=>al.au (Nat.beq v v'&&Nat.beq sz sz'&&Nat.beq y.cells.length i.sz) (al.bC rows j fun r=>match cX (D.toF η 4) y.cells with
    | some (fs,is)=>al.au (fs.all F.one&&Nat.ble (o+i.sz) sz&&Nat.blt 0 i.sz && !is.elem b) (k Un (b :: is) ((b,.ro v e sz (rows.set j (setAt r o fs))) :: aZ η is))
    | none=>al.bot)
   | _=>al.bot)
  | _=>al.bot
def nS(t':Nat)(x:D)(j:Nat)(k:Kr R):R:=match E t' with
 | some ⟨_,_,.st fs⟩=>(match fs[j]? with
  | some (o',s',_)=>al.au (Nat.blt 0 s') (match x with
   | .ptr b v o=>k (.ptr b v (o+o')) [] []
   | .rp b v sz i o=>k (.rp b v sz i (o+o')) [] []
   | .fr (.pt sz rows i o)=>k (.fr (.pt sz rows i (o+o'))) [] []
   | _=>al.bot)
  | none=>al.bot)
 | _=>al.bot
def B9(t':Nat)(x:D)(j:Nat)(k:Kr R):R:=match E t' with
 | some ⟨n,_,.st fs⟩=>(match fs[j]? with
  | some (o',s',g)=>(match x with
   | .ag cs=>al.au (Nat.beq cs.length n) (match g with
    | true=>k (.ag ((cs.drop o').take s')) [] []
    | false=>al.bC cs o' fun d=>k d [] [])
   | .fr (.ag cs)=>al.au (Nat.beq cs.length n) (match g with
    | true=>k (.ag (((cs.drop o').take s').map .fr)) [] []
    | false=>al.bC cs o' fun d=>k (.fr d) [] [])
   | _=>al.bot)
  | none=>al.bot)
 | _=>al.bot
def nW(t':Nat)(x y:D)(k:Kr R):R:=match y with
 | .fr (.vl (.int _ n))=>(match E t' with
  | some ⟨_,_,.sl e sz _⟩=>(match x with
   | .own b v=>(match η b with
    | some (.ro v' _ sz' rows)=>al.au (Nat.beq v v'&&Nat.beq sz sz') (al.cZ n fun i=>al.au (Nat.blt i rows.length) (k (.rp b v sz i 0) [b] []))
    | _=>al.bot)
   | .fr (.sl rows)=>al.cZ n fun i=>al.bC rows i fun r=>al.au (Nat.beq r.length sz) (k (.fr (.pt sz rows i 0)) [] [])
   | _=>al.bot)
  | some ⟨_,_,.ar len e sz⟩=>(match x with
   | .ptr b v o=>al.cZ n fun i=>al.au (Nat.blt i len) (k (.ptr b v (o+i * sz)) [] [])
   | .rp b v sz' j o=>al.cZ n fun i=>al.au (Nat.blt i len) (k (.rp b v sz' j (o+i * sz)) [] [])
   | .fr (.pt sz' rows j o)=>al.cZ n fun i=>al.au (Nat.blt i len) (k (.fr (.pt sz' rows j (o+i * sz))) [] [])
   | _=>al.bot)
  | _=>al.bot)
 | _=>al.bot
def Cm(t':Nat)(x y:D)(k:Kr R):R:=match y with
 | .fr (.vl (.int _ n))=>(match E t',x with
  | some ⟨_,_,.str⟩,.fr (.vl (.string s))=>al.cZ n fun i=>al.bC s.data.toList i fun u=>k (.fr (.vl (.int .u8 (u.toNat:Int)))) [] []
  | _,_=>al.bot)
 | _=>al.bot
def qF(d:Nat)(x:Option D)(K:Nat→R):R:=match x with
 | none=>K d
 | some (.fr (.vl (.int _ n)))=>al.cZ n K
 | _=>al.bot
def kF(sz:Nat)(rows:List (List F)):Bool:=rows.all fun r=>Nat.beq r.length sz
def B5(t':Nat)(x:D)(lo hi:Option (Option D))(mx:Bool)(k:Kr R):R:=match mx with
 | true=>al.bot
 | false=>match lo,hi with
  | some lo,some hi=>(match E t',x with
   | some ⟨_,_,.str⟩,.fr (.vl (.string s))=>qF al 0 lo fun l=>qF al (szS s) hi fun h=>al.au (Nat.ble l h&&Nat.ble h (szS s)) (k (.fr (.vl (.string (gv s l h)))) [] [])
   | some ⟨_,_,.sl e sz _⟩,.fr (.sl rows)=>qF al 0 lo fun l=>qF al rows.length hi fun h=>al.au (Nat.ble l h&&Nat.ble h rows.length&&kF sz rows) (k (.fr (.sl ((rows.take h).drop l))) [] [])
   | _,_=>al.bot)
  | _,_=>al.bot
def sH(x:D)(j:Nat)(k:Kr R):R:=match x with
 | .tp ds=>al.bC ds j fun d=>k d [] []
 | _=>al.bot
def Bf(t':Nat)(ps:List (Nat×Option D))(k:Kr R):R:=match E t' with
 | some ⟨_,z,.st fs⟩=>(match pA fs (z.map fun v=>.fr (.vl v)) ps with
  | some cs=>k (.ag cs) [] []
  | none=>al.bot)
 | some ⟨_,z :: zs,.ar len _ sz⟩=>(match pA ((List.range len).map fun j=>(j * sz,sz,false)) ((z :: zs).map fun v=>.fr (.vl v)) ps with
  | some cs=>k (.ag cs) [] []
  | none=>al.bot)
 | _=>al.bot
def Lz(t':Nat)(len:Nat)(ps:List (Nat×Option D))(k:Kr R):R:=match E t' with
 | some ⟨_,_,.sl e sz _⟩=>(match lJ η sz 0 ps with
  | some (rows,is)=>al.au (Nat.beq len ps.length&&Nat.ble (len * sz) 16777216 && !(is.elem t)) (k (.own t (nv η t)) (t :: is) ((t,.ro (nv η t) e sz rows) :: aZ η is))
  | none=>al.bot)
 | _=>al.bot
def GS(t':Nat)(l c:D)(k:Kr R):R:=match E t',l,c with
 | some ⟨_,_,.sl e sz by_⟩,.fr (.vl (.int _ n)),.fr (.vl (.int _ m))=>(match E e with
  | some i=>al.au (Nat.beq i.z.length sz) (al.cZ n fun j=>al.cZ m fun j'=>al.au ((Nat.beq j j'||Nat.beq j 0)&&Nat.ble (by_ * j') 281474976710656&&Nat.ble j' maxLen)
    (k (.own t (nv η t)) [t] [(t,.ro (nv η t) e sz (List.replicate j (i.z.map fun v=>F.nz (.vl v))))]))
  | none=>al.bot)
 | _,_,_=>al.bot
def LH(t':Nat)(x:D)(k:Kr R):R:=match E t' with
 | some ⟨_,_,.str⟩=>(match x with
  | .fr (.vl (.string s))=>k (.fr (.vl (.int .i64 (szS s:Int)))) [] []
  | _=>al.bot)
 | some ⟨_,_,.sl _ _ _⟩=>(match x with
  | .fr (.sl rows)=>k (.fr (.vl (.int .i64 (rows.length:Int)))) [] []
  | .fr (.vl (.slice none 0 0))=>k (.fr (.vl (.int .i64 0))) [] []
  | .own b v=>(match η b with
   | some (.ro v' _ _ rows)=>al.au (Nat.beq v v') (k (.fr (.vl (.int .i64 (rows.length:Int)))) [b] [])
   | _=>al.bot)
  | _=>al.bot)
 | _=>al.bot
def xz(t':Nat)(x y:D)(k:Kr R):R:=match E t',gX η y with
 | some ⟨_,_,.sl e sz by_⟩,some (news,rd)=>(match x with
  | .own b v=>(match η b with
   | some (.ro v' e' sz' rows)=>al.au (Nat.beq v v'&&Nat.beq e e'&&Nat.beq sz sz'&&kF sz news&&Nat.ble (rows.length+news.length) maxLen&&Nat.ble ((rows.length+news.length) * by_) 140737488355328)
     (k (.own b (v+1)) (b :: rd) [(b,.ro (v+1) e sz (rows++news))])
   | _=>al.bot)
  | .fr (.vl (.slice none 0 0))=>al.au (kF sz news&&Nat.ble news.length maxLen&&Nat.ble (news.length * by_) 140737488355328) (k (.own t (nv η t)) (t :: rd) [(t,.ro (nv η t) e sz news)])
  | _=>al.bot)
 | _,_=>al.bot
def bytesOf:List (List F)→Option (List UInt8)
 | []=>some []
 | r :: l=>match r with
  | [.vl (.int .u8 (.ofNat n))]=>bif Nat.blt n 256 then (match bytesOf l with
   | some m=>some (UInt8.ofNat n :: m)
   | none=>none) else none
  | _=>none
def Gy(t1 t2:Nat)(x:D)(k:Kr R):R:=match E t1,E t2 with
 | some ⟨_,_,.int k1⟩,some ⟨_,_,.int k2⟩=>(match x with
  | .fr (.vl (.int k' n))=>al.au (kb k' k1) (al.kC (k2.wrap n) fun m=>k (.fr (.vl (.int k2 m))) [] [])
  | _=>al.bot)
 | some ⟨_,_,.sl e sz _⟩,some ⟨_,_,.str⟩=>(match E e with
  | some ⟨_,_,.int .u8⟩=>(match gX η x with
   | some (rows,rd)=>(match bytesOf rows with
    | some bs=>al.au (Nat.beq sz 1) (k (.fr (.vl (.string ⟨bs.toArray⟩))) rd [])
    | none=>al.bot)
   | none=>al.bot)
  | _=>al.bot)
 | _,_=>al.bot
abbrev CR(R:Type):=Nat→Env→FuncId→List D→Kr R→R
def G9(G:CR R)(ρ:Operand→Option D)(c:Call)(k:Kr R):R:=match c.callee with
 | .builtin .len=>(match c.args.toList,c.argTypes.toList with
  | [x],[t']=>(match ρ x with|some d=>LH al E η t' d k|none=>al.bot)
  | _,_=>al.bot)
 | .builtin .append=>(match c.args.toList,c.argTypes.toList with
  | [x,y],[t',t'']=>(match ρ x,ρ y with|some d,some d'=>al.au (Nat.beq t' t'') (xz al E η t t' d d' k)|_,_=>al.bot)
  | _,_=>al.bot)
 | .builtin .max=>(match c.args.toList with
  | [x,y]=>(match ρ x,ρ y with
   | some (.fr (.vl (.int .i64 a))),some (.fr (.vl (.int .i64 b)))=>k (.fr (.vl (.int .i64 (bif leI a b then b else a)))) [] []
   | _,_=>al.bot)
  | _=>al.bot)
 | .builtin .min=>(match c.args.toList with
  | [x,y]=>(match ρ x,ρ y with
   | some (.fr (.vl (.int .i64 a))),some (.fr (.vl (.int .i64 b)))=>k (.fr (.vl (.int .i64 (bif leI a b then a else b)))) [] []
   | _,_=>al.bot)
  | _=>al.bot)
 | .value f=>(match ρ f,kN (c.args.toList.map ρ) with
  | some (.cl f cs),some l=>G t η f (l++cs) k
  | some (.fr (.cl f cs)),some l=>G t η f (l++cs.map F.toD) k
  | _,_=>al.bot)
 | _=>al.bot
def KV(G:CR R)(ρ:Operand→Option D)(op:Op)(k:Kr R):R:=match op with
 | .move x=>(match ρ x with|some d=>k d [] []|none=>al.bot)
 | .assign x=>(match ρ x with|some d=>k d [] []|none=>al.bot)
 | .pick c a b=>(match ρ c,ρ a,ρ b with|some (.fr (.vl (.bool q))),some x,some y=>al.oJ q (k x [] []) (k y [] [])|_,_,_=>al.bot)
 | .alloc t'=>(match E t' with
  | some i=>al.au (Nat.blt 0 i.z.length) (k (.ptr t (nv η t) 0) [t] [(t,.va (nv η t) t' (i.z.map fun v=>.fr (.vl v)))])
  | none=>al.bot)
 | .box t' x=>(match ρ x with|some d=>al.au (d.cells.all D.one) (k (.ptr t (nv η t) 0) [t] [(t,.va (nv η t) t' d.cells)])|none=>al.bot)
 | .build t' ps=>Bf al E t' (ps.toList.map fun p=>(p.1,ρ p.2)) k
 | .buildSlice t' n ps=>Lz al E η t t' n (ps.toList.map fun p=>(p.1,ρ p.2)) k
 | .load t' x=>(match ρ x with|some d=>G7 al E η t' d k|none=>al.bot)
 | .store t' x y=>(match ρ x,ρ y with|some d,some d'=>AJ al E η t' d d' k|_,_=>al.bot)
 | .nilCheck x=>(match ρ x with
  | some (.ptr b v o)=>k (.ptr b v o) [] []
  | some (.rp b v sz i o)=>k (.rp b v sz i o) [] []
  | some (.fr (.pt sz rows i o))=>k (.fr (.pt sz rows i o)) [] []
  | some (.cl f cs)=>k (.cl f cs) [] []
  | some (.fr (.cl f cs))=>k (.fr (.cl f cs)) [] []
  | _=>al.bot)
 | .binOp op ty x y _=>(match ρ x,ρ y with
  | some d,some d'=>(match E ty with
   | some ⟨_,_,.bool⟩=>KM al op d d' fun r=>k r [] []
   | some ⟨_,_,.ar len e sz⟩=>(match E e with
    | some ⟨_,_,.int ik⟩=>al.au (Nat.beq sz 1&&Nat.beq d.cells.length len&&Nat.beq d'.cells.length len) (KZ al ik op d d' fun r=>k r [] [])
    | _=>al.bot)
   | _=>LY al op d d' fun r=>k r [] [])
  | _,_=>al.bot)
 | .unOp op _ x=>(match ρ x with|some d=>unG al op d fun r=>k r [] []|none=>al.bot)
 | .convert t1 t2 x=>(match ρ x with|some d=>Gy al E η t1 t2 d k|none=>al.bot)
 | .makeFunc (.func f) fst cap=>(match fst.toList,kN (cap.toList.map ρ) with|[],some l=>k (.cl f l) [] []|_,_=>al.bot)
 | .makeSlice t' l c=>(match ρ l,ρ c with|some d,some d'=>GS al E η t t' d d' k|_,_=>al.bot)
 | .slice t' x lo hi mx=>(match ρ x with
  | some d=>B5 al E t' d (fq ρ lo) (fq ρ hi) mx.isSome k
  | none=>al.bot)
 | .fieldAddr t' x j=>(match ρ x with|some d=>nS al E t' d j k|none=>al.bot)
 | .field t' x j=>(match ρ x with|some d=>B9 al E t' d j k|none=>al.bot)
 | .indexAddr t' x y=>(match ρ x,ρ y with|some d,some d'=>nW al E η t' d d' k|_,_=>al.bot)
 | .index t' x y=>(match ρ x,ρ y with|some d,some d'=>Cm al E t' d d' k|_,_=>al.bot)
 | .extract x j=>(match ρ x with|some d=>sH al d j k|none=>al.bot)
 | .call c=>G9 al E η t G ρ c k
 | _=>al.bot
def opG(Q:Nat→Bool)(G:CR R)(ρ:Operand→Option D)(op:Op)(k:Kr R):R:=bif Nn Q E ρ op then oB al Q E η t ρ op k else KV al E η t G ρ op k
end
def MC(b v:Nat):D→Bool
 | .fr (.vl (.pointer none))=>true
 | .ptr b' v' o=>Nat.beq b b'&&Nat.beq v v'&&Nat.beq o 0
 | _=>false
def F9(t:Nat)(η:Env)(b:Nat):D→Option (List (List F)×Nat×Nat×List Nat)
 | .fr (.vl (.slice none 0 0))=>some ([],t,nv η t,[t])
 | .own b2 v=>match η b2 with
  | some (.ro v' _ sz rows)=>bif Nat.beq v v'&&Nat.beq sz 1 && !Nat.beq b b2 then some (rows,b2,v+1,[b2]) else none
  | _=>none
 | _=>none
def rowsOf(l:List UInt8):List (List F):=l.map fun u=>[.vl (.int .u8 (u.toNat:Int))]
def I6(bt u8:Nat)(kind:Nat)(t:Nat)(η:Env)(l:List D):Ot:=match l with
 | .ptr b v 0 :: l=>(match η b with
  | some (.va v' ty [ad,sl])=>wE (Nat.beq v v'&&Nat.beq ty bt&&MC b v ad) (match F9 t η b sl with
   | some (rows,b2,v2,rd)=>(match bytesOf rows with
    | some bs=>
     let put (news:List UInt8) (r:D):Ot:=wE (Nat.ble (bs.length+news.length) 100000000) (some (r,b :: rd,[(b2,.ro v2 u8 1 (rows++rowsOf news)),(b,.va v bt [.ptr b v 0,.own b2 v2])]))
     (match kind,l with
     | 1,[.fr (.vl (.int .u8 (.ofNat n)))]=>wE (Nat.blt n 256) (put [UInt8.ofNat n] (.fr (.vl .nilIface)))
     | 2,[.fr (.vl (.string s))]=>put s.data.toList (.tp [.fr (.vl (.int .i64 (szS s:Int))),.fr (.vl .nilIface)])
     | 3,[]=>some (.fr (.vl (.string ⟨bs.toArray⟩)),b :: rd,(b,.gone v) :: (match sl with | .own b2 v2=>[(b2,.gone v2)]|_=>[]))
     | _,_=>none)
    | none=>none)
   | none=>none)
  | _=>none)
 | _=>none
def bdX(E:TE)(bt u8:Nat)(kind:Nat)(t:Nat)(η:Env)(l:List D):Ot:=match kind,l with
 | 4,x :: _=>(match qu η x with
  | some ([],rd)=>some (.fx [],rd,[])
  | some (rows,rd)=>(match E bt with
   | some ⟨_,_,.sl e sz by_⟩=>wE (kF sz rows&&Nat.ble rows.length maxLen&&Nat.ble (rows.length * by_) 140737488355328) (some (.own t (nv η t),t :: rd,[(t,.ro (nv η t) e sz rows)]))
   | _=>none)
  | none=>none)
 | kind,l=>I6 bt u8 kind t η l
end Go.Km
end
section
namespace Go.Vc
open Go Go.RowKit Go.Sl
def CT{R:Type}(T:R→Prop)(k:Kr R)(x:R)(y:Ot):Prop:=T x→∃d rd e,y=some (d,rd,e)∧T (k d rd e)
section
variable {R:Type} {al:Al R} {T:R→Prop} (hb:u7 al T) {k:Kr R}
theorem CT.ret{d:D}{rd:List Nat}{e:List (Nat×B)}:CT T k (k d rd e) (some (d,rd,e)):=fun h=>⟨d,rd,e,rfl,h⟩
include hb
theorem CT.bot{y:Ot}:CT T k al.bot y:=fun h=>(hb.bot h).elim
theorem CT.au{c:Bool}{x:R}{y:Ot}(h:CT T k x y):CT T k (al.au c x) ((alO _).au c y):=fun g=>by
 obtain⟨rfl,g2⟩:=hb.au g;exact h g2
theorem CT.cZ{n:Int}{x:Nat→R}{y:Nat→Ot}(h:∀i,CT T k (x i) (y i)):CT T k (al.cZ n x) ((alO _).cZ n y):=fun g=>by
 obtain⟨i,rfl,g2⟩:=hb.cZ g;exact h i g2
theorem CT.bC{α:Type}{xs:List α}{i:Nat}{x:α→R}{y:α→Ot}(h:∀i,CT T k (x i) (y i)):CT T k (al.bC xs i x) ((alO _).bC xs i y):=fun g=>by
 obtain⟨a,e,g⟩:=hb.bC g;simp only[alO,e];exact h a g
variable {Q:Nat→Bool} {E:TE} {η:Env} {t:Nat} {ρ:Operand→Option D}
theorem dm{d:D}{x:Nat→R}{y:Nat→Ot}(h:∀i,CT T k (x i) (y i)):CT T k (gU al d x) (gU (alO _) d y):=by
 unfold gU
 split
 ·exact CT.cZ hb h
 ·exact CT.bot hb
theorem Gd{n:Nat}{d:Option (Option D)}{x:Nat→R}{y:Nat→Ot}(h:∀i,CT T k (x i) (y i)):CT T k (vf al n d x) (vf (alO _) n d y):=by
 unfold vf
 split
 ·exact h _
 ·exact dm hb h
 ·exact CT.bot hb
theorem iy{n:Nat}{lo hi mx:Option (Option D)}{x:Nat→Nat→Bool→R}{y:Nat→Nat→Bool→Ot}(h:∀i j b,CT T k (x i j b) (y i j b)):CT T k (rY al n lo hi mx x) (rY (alO _) n lo hi mx y):=by
 unfold rY;refine Gd hb fun i=>Gd hb fun j=>CT.au hb ?_
 split
 ·exact h _ _ _
 ·split
  ·exact CT.bot hb
  ·exact dm hb fun m=>CT.au hb (h _ _ _)
 ·exact CT.bot hb
theorem Ef{t':Nat}{x:D}{lo hi mx:Option (Option D)}:CT T k (iY al E η t' x lo hi mx k) (iY (alO _) E η t' x lo hi mx fun d rd e=>some (d,rd,e)):=by
 unfold iY
 repeat' (first|exact CT.ret|exact CT.bot hb|apply CT.au hb|(apply CT.bC hb;intro _)|(apply dm hb;intro _)|(apply iy hb;intro _ _ _)|split)
theorem Ce{t':Nat}{x y:D}:CT T k (gq al E η t t' x y k) (gq (alO _) E η t t' x y fun d rd e=>some (d,rd,e)):=by
 unfold gq
 repeat' (first|exact CT.ret|exact CT.bot hb|apply CT.au hb|(apply CT.bC hb;intro _)|(apply dm hb;intro _)|(apply iy hb;intro _ _ _)|split)
theorem Fa{t':Nat}{x:D}{s:ByteArray}:CT T k (iR al E η t t' x s k) (iR (alO _) E η t t' x s fun d rd e=>some (d,rd,e)):=by
 unfold iR
 repeat' (first|exact CT.ret|exact CT.bot hb|apply CT.au hb|(apply CT.bC hb;intro _)|(apply dm hb;intro _)|(apply iy hb;intro _ _ _)|split)
theorem IM{t':Nat}{x:D}:CT T k (pD al E η t' x k) (pD (alO _) E η t' x fun d rd e=>some (d,rd,e)):=by
 unfold pD
 repeat' (first|exact CT.ret|exact CT.bot hb|apply CT.au hb|(apply CT.bC hb;intro _)|(apply dm hb;intro _)|(apply iy hb;intro _ _ _)|split)
theorem GX{t':Nat}{x y:D}:CT T k (lq al E η t' x y k) (lq (alO _) E η t' x y fun d rd e=>some (d,rd,e)):=by
 unfold lq
 repeat' (first|exact CT.ret|exact CT.bot hb|apply CT.au hb|(apply CT.bC hb;intro _)|(apply dm hb;intro _)|(apply iy hb;intro _ _ _)|split)
theorem vc{t':Nat}{x y:D}:CT T k (dt al E η t' x y k) (dt (alO _) E η t' x y fun d rd e=>some (d,rd,e)):=by
 unfold dt
 repeat' (first|exact CT.ret|exact CT.bot hb|apply CT.au hb|(apply CT.bC hb;intro _)|(apply dm hb;intro _)|(apply iy hb;intro _ _ _)|split)
theorem E9{t':Nat}{x y:D}:CT T k (mQ al E t' x y k) (mQ (alO _) E t' x y fun d rd e=>some (d,rd,e)):=by
 unfold mQ
 repeat' (first|exact CT.ret|exact CT.bot hb|apply CT.au hb|(apply CT.bC hb;intro _)|(apply dm hb;intro _)|(apply iy hb;intro _ _ _)|split)
theorem Bj{t':Nat}{x y:D}{c:Bool}:CT T k (gw al E η t' x y c k) (gw (alO _) E η t' x y c fun d rd e=>some (d,rd,e)):=by
 unfold gw;dsimp only
 repeat' (first|exact CT.ret|exact CT.bot hb|apply CT.au hb|(apply CT.bC hb;intro _)|(apply dm hb;intro _)|(apply iy hb;intro _ _ _)|split)
theorem Bq{t':Nat}{x y z:D}:CT T k (gD al E η t' x y z k) (gD (alO _) E η t' x y z fun d rd e=>some (d,rd,e)):=by
 unfold gD
 repeat' (first|exact CT.ret|exact CT.bot hb|apply CT.au hb|(apply CT.bC hb;intro _)|(apply dm hb;intro _)|(apply iy hb;intro _ _ _)|split)
theorem ph{op:BinOp}{r:Option Bool}:CT T k (nL al op r k) (nL (alO _) op r fun d rd e=>some (d,rd,e)):=by
 unfold nL
 repeat' (first|exact CT.ret|exact CT.bot hb|apply CT.au hb|(apply CT.bC hb;intro _)|(apply dm hb;intro _)|(apply iy hb;intro _ _ _)|split)
theorem I2{op:BinOp}{ty:Nat}{x y:D}:CT T k (wc al Q E op ty x y k) (wc (alO _) Q E op ty x y fun d rd e=>some (d,rd,e)):=by
 unfold wc
 split
 ·exact ph hb
 ·exact ph hb
 ·split
  ·exact CT.au hb (ph hb)
  ·exact ph hb
  ·exact CT.bot hb
 ·exact CT.au hb (ph hb)
 ·exact CT.bot hb
theorem I4{op:Op}:CT T k (oB al Q E η t ρ op k) (opX Q E η t ρ op):=by
 unfold opX oB
 cases op
 all_goals try exact CT.bot hb
 case slice=>dsimp only;split;exact Ef hb;exact CT.bot hb
 case indexAddr=>dsimp only;split;exact vc hb;exact CT.bot hb
 case index=>dsimp only;split;exact E9 hb;exact CT.bot hb
 case makeMap=>dsimp only;repeat' (first|exact CT.ret|exact CT.bot hb|apply CT.au hb|(apply CT.bC hb;intro _)|(apply dm hb;intro _)|(apply iy hb;intro _ _ _)|split)
 case lookup=>dsimp only;split;exact Bj hb;exact CT.bot hb
 case mapUpdate=>dsimp only;split;exact Bq hb;exact CT.bot hb
 case binOp=>dsimp only;split;exact I2 hb;exact CT.bot hb
 case makeFunc f fst cap=>
  cases f with
  | func f=>dsimp only;repeat' (first|exact CT.ret|exact CT.bot hb|apply CT.au hb|(apply CT.bC hb;intro _)|(apply dm hb;intro _)|(apply iy hb;intro _ _ _)|split)
  | _=>exact CT.bot hb
 case call=>
  dsimp only
  split
  ·split
   ·split
    ·exact IM hb
    ·exact CT.bot hb
   ·exact CT.bot hb
  ·split
   ·split
    ·split
     ·exact CT.au hb (Fa hb)
     ·exact CT.au hb (Ce hb)
    ·exact CT.bot hb
   ·exact CT.bot hb
  ·split
   ·split
    ·exact CT.au hb (GX hb)
    ·exact CT.bot hb
   ·exact CT.bot hb
  ·exact CT.bot hb
theorem KT{op:Op}(h:T (oB al Q E η t ρ op k)):∃d rd e,opX Q E η t ρ op=some (d,rd,e)∧T (k d rd e):=I4 hb h
end
end Go.Vc
end
section
namespace Go.Km
open Go Go.RowKit Go.Vc
open Go.Sl hiding lk
section
variable {R:Type} {α:Type} {al:Al R} {T:R→Prop} (hb:u7 al T)
include hb
theorem aE{c:Bool}{k:R}(h:T (al.au c k)):c=true∧T k:=hb.au h
theorem js{xs:List α}{i:Nat}{k:α→R}(h:T (al.bC xs i k)):∃x,xs[i]?=some x∧T (k x):=hb.bC h
theorem kS{n:Int}{k:Nat→R}(h:T (al.cZ n k)):∃i:Nat,n=(i:Int)∧T (k i):=hb.cZ h
theorem CN{c:Bool}{a b:R}(h:T (al.oJ c a b)):(c=true→T a)∧(c=false→T b):=hb.oJ h
theorem Dk{k:IntKind}{n:Int}{K:D→R}(h:T (arG al k n K)):rP k n (fun d=>T (K d)):=by
 unfold arG at h;unfold rP
 split at h
 ·obtain⟨h1,h2⟩:=aE hb h;exact⟨(y7 _).1 h1,h2⟩
 ·rename_i hk
  split
  ·exact absurd rfl hk
  ·exact⟨_,rfl,hb.kC h⟩
theorem KW{op:BinOp}{ka kb_:IntKind}{a b:Int}{K:D→R}(h:T (KN al op ka a kb_ b K)):rA op ka a kb_ b (fun d=>T (K d)):=by
 have e:∀{c:R},T (al.au (kb ka kb_) c)→ka=kb_∧T c:=fun h=>let ⟨h1,h2⟩:=aE hb h;⟨Ge.1 h1,h2⟩
 cases op<;>simp only[KN] at h<;>simp only[rA]
 case shl=>obtain⟨h1,h2⟩:=aE hb h;exact⟨by rw[ed] at h1;simpa using h1,hb.kC h2⟩
 case shr=>obtain⟨h1,h2⟩:=aE hb h;exact⟨by rw[ed] at h1;simpa using h1,hb.kC h2⟩
 all_goals
  replace h:=e h
  clear e;obtain⟨e1,h⟩:=h;subst e1;simp only[decide_true,cond_true]
 case add=>exact Dk hb h
 case sub=>exact Dk hb h
 case mul=>exact Dk hb h
 case quo=>obtain⟨h1,h2⟩:=aE hb h;exact⟨by rw[dG] at h1;simpa using h1,_,rfl,hb.kC h2⟩
 case rem=>obtain⟨h1,h2⟩:=aE hb h;exact⟨by rw[dG] at h1;simpa using h1,_,rfl,hb.kC h2⟩
 case eql=>rw[←dG];exact h
 case neq=>rw[←dG];exact h
 case lss=>rw[←mB];exact h
 case leq=>rw[←ed];exact h
 case gtr=>rw[←mB];exact h
 case geq=>rw[←ed];exact h
 all_goals
  simp only[z9] at h ⊢;exact hb.kC h
theorem KU{op:BinOp}{a b:ByteArray}{K:D→R}(h:T (KY al op a b K)):rI op a b (fun d=>T (K d)):=by
 cases op<;>simp only[KY] at h<;>simp only[rI]
 case add=>
  obtain⟨h1,h2⟩:=aE hb h;have h1:=On h1;rw[jV,jV] at h1;rw[xF] at h2;exact⟨by omega,h2⟩
 case eql=>rw[←sV];exact h
 case neq=>rw[←sV];exact h
 all_goals exact(hb.bot h).elim
theorem L4{op:BinOp}{x y:D}{K:D→R}(h:T (LY al op x y K)):sK op x y (fun d=>T (K d)):=by
 unfold LY at h;unfold sK
 split at h
 ·exact KW hb h
 ·exact KU hb h
 ·exact(hb.bot h).elim
omit hb in
theorem Dy(a b:Bool):qj a b=(a==b):=by cases a<;>cases b<;>rfl
theorem Lo{op:BinOp}{x y:D}{K:D→R}(h:T (KM al op x y K)):oK op x y (fun d=>T (K d)):=by
 unfold KM at h;unfold oK
 split at h
 ·split at h
  ·rw[Dy] at h;exact h
  ·rw[Dy] at h;exact h
  ·exact(hb.bot h).elim
 ·exact(hb.bot h).elim
theorem K2{ik:IntKind}{op:BinOp}{x y:D}{K:D→R}(h:T (KZ al ik op x y K)):rk ik op x y (fun d=>T (K d)):=by
 unfold KZ at h;unfold rk
 split at h
 ·rename_i l m e1 e2;obtain⟨h1,h2⟩:=aE hb h;simp only[e1,e2,h1,cond_true]
  split at h2
  ·rw[o6] at h2;exact h2
  ·rw[o6] at h2;exact h2
  ·exact(hb.bot h2).elim
 ·exact(hb.bot h).elim
theorem M3{op:UnOp}{x:D}{K:D→R}(h:T (unG al op x K)):BO op x (fun d=>T (K d)):=by
 unfold unG at h;unfold BO
 split at h
 ·exact h
 ·exact Dk hb h
 ·exact(hb.bot h).elim
variable {E:TE} {η:Env} {t:Nat} {k:Kr R}
theorem I1{t':Nat}{x:D}(h:T (G7 al E η t' x k)):gg E η t' x (fun d rd e=>T (k d rd e)):=by
 unfold G7 at h
 split at h
 ·exact(hb.bot h).elim
 ·rename_i i hi;unfold gg
  split at h
  ·rename_i b v o;simp only[hi]
   split at h
   ·rename_i v' t'' cs hη;obtain⟨h1,h⟩:=aE hb h;simp only[hη,h1,cond_true]
    split at h
    ·rename_i ha;obtain⟨h2,h⟩:=aE hb h;simp only[ha,cond_true];exact⟨On h2,h⟩
    ·rename_i ha;simp only[ha,cond_false];exact js hb h
   ·exact(hb.bot h).elim
  ·rename_i b v sz j o;simp only[hi]
   split at h
   ·rename_i v' e sz' rows hη;obtain⟨h1,h⟩:=aE hb h;simp only[hη,h1,cond_true];obtain⟨r,hr,h⟩:=js hb h;refine⟨r,hr,?_⟩
    split at h
    ·rename_i ha;obtain⟨h2,h⟩:=aE hb h;simp only[ha,cond_true];exact⟨On h2,h⟩
    ·rename_i ha;simp only[ha,cond_false];exact js hb h
   ·exact(hb.bot h).elim
  ·rename_i sz rows j o;simp only[hi];obtain⟨r,hr,h⟩:=js hb h;refine⟨r,hr,?_⟩
   split at h
   ·rename_i ha;obtain⟨h2,h⟩:=aE hb h;simp only[ha,cond_true];exact⟨On h2,h⟩
   ·rename_i ha;simp only[ha,cond_false];exact js hb h
  ·exact(hb.bot h).elim
theorem GA{t':Nat}{x y:D}(h:T (AJ al E η t' x y k)):gZ E η t' x y (fun d rd e=>T (k d rd e)):=by
 unfold AJ at h
 split at h
 ·exact(hb.bot h).elim
 ·rename_i i hi;unfold gZ
  split at h
  ·rename_i b v o;simp only[hi]
   split at h
   ·rename_i v' bt cs hη;obtain⟨h1,h⟩:=aE hb h;simp only[Oi] at h1;obtain⟨⟨⟨⟨h1,h2⟩,h3⟩,h4⟩,h5⟩:=h1;simp only[hη,h1,h2,Bool.and_self,cond_true];exact⟨h3,On h4,cF h5,h⟩
   ·exact(hb.bot h).elim
  ·rename_i b v sz j o;simp only[hi]
   split at h
   ·rename_i v' e sz' rows hη;obtain⟨h1,h⟩:=aE hb h;simp only[hη,h1,cond_true];obtain⟨r,hr,h⟩:=js hb h;refine⟨r,hr,?_⟩
    split at h
    ·rename_i fs is hm;obtain⟨h2,h⟩:=aE hb h;simp only[Oi] at h2;obtain⟨⟨⟨h2,h3⟩,h4⟩,h5⟩:=h2;simp only[hm];exact⟨h2,On h3,cF h4,by simpa using h5,h⟩
    ·exact(hb.bot h).elim
   ·exact(hb.bot h).elim
  ·exact(hb.bot h).elim
theorem xC{t' j:Nat}{x:D}(h:T (nS al E t' x j k)):cu E t' x j (fun d rd e=>T (k d rd e)):=by
 unfold nS at h;unfold cu
 split at h
 ·rename_i he
  split at h
  ·rename_i o' s' g hj;obtain⟨h1,h⟩:=aE hb h;simp only[he,hj,h1,cond_true]
   split at h
   ·exact h
   ·exact h
   ·exact h
   ·exact(hb.bot h).elim
  ·exact(hb.bot h).elim
 ·exact(hb.bot h).elim
theorem HO{t' j:Nat}{x:D}(h:T (B9 al E t' x j k)):fI E t' x j (fun d rd e=>T (k d rd e)):=by
 unfold B9 at h;unfold fI
 split at h
 ·rename_i he
  split at h
  ·rename_i o' s' g hj
   split at h
   ·obtain⟨h1,h⟩:=aE hb h;simp only[he,hj,h1,cond_true]
    split at h
    ·exact h
    ·exact js hb h
   ·obtain⟨h1,h⟩:=aE hb h;simp only[he,hj,h1,cond_true]
    split at h
    ·exact h
    ·exact js hb h
   ·exact(hb.bot h).elim
  ·exact(hb.bot h).elim
 ·exact(hb.bot h).elim
theorem xc{t':Nat}{x y:D}(h:T (nW al E η t' x y k)):bI E η t' x y (fun d rd e=>T (k d rd e)):=by
 unfold nW at h;unfold bI
 split at h
 ·split at h
  ·rename_i e sz by_ he;simp only[he]
   split at h
   ·split at h
    ·rename_i v' e' sz' rows hη;obtain⟨h1,h⟩:=aE hb h;simp only[hη,h1,cond_true];obtain⟨i,hi,h⟩:=kS hb h;obtain⟨h2,h⟩:=aE hb h;exact⟨i,hi,cF h2,h⟩
    ·exact(hb.bot h).elim
   ·obtain⟨i,hi,h⟩:=kS hb h;obtain⟨r,hr,h⟩:=js hb h;obtain⟨h2,h⟩:=aE hb h;exact⟨i,hi,r,hr,Nat.eq_of_beq_eq_true h2,h⟩
   ·exact(hb.bot h).elim
  ·rename_i len e sz he;simp only[he]
   split at h
   ·obtain⟨i,hi,h⟩:=kS hb h;obtain⟨h2,h⟩:=aE hb h;exact⟨i,hi,cF h2,h⟩
   ·obtain⟨i,hi,h⟩:=kS hb h;obtain⟨h2,h⟩:=aE hb h;exact⟨i,hi,cF h2,h⟩
   ·obtain⟨i,hi,h⟩:=kS hb h;obtain⟨h2,h⟩:=aE hb h;exact⟨i,hi,cF h2,h⟩
   ·exact(hb.bot h).elim
  ·exact(hb.bot h).elim
 ·exact(hb.bot h).elim
theorem HK{t':Nat}{x y:D}(h:T (Cm al E t' x y k)):iS E t' x y (fun d rd e=>T (k d rd e)):=by
 unfold Cm at h;unfold iS
 split at h
 ·split at h
  ·rename_i he;obtain⟨i,hi,h⟩:=kS hb h;obtain⟨u,hu,h⟩:=js hb h;simp only[he];exact⟨i,hi,u,by simpa using hu,h⟩
  ·exact(hb.bot h).elim
 ·exact(hb.bot h).elim
theorem pO{d:Nat}{x:Option D}{K:Nat→R}(h:T (qF al d x K)):bound d x (fun i=>T (K i)):=by
 unfold qF at h;unfold bound
 split at h
 ·exact h
 ·exact kS hb h
 ·exact(hb.bot h).elim
omit hb in
theorem lF{d:Nat}{x:Option D}{K K':Nat→Prop}(h:bound d x K)(hk:∀i,K i→K' i):bound d x K':=by
 unfold bound at *
 split at h
 ·exact hk _ h
 ·obtain⟨i,hi,h⟩:=h;exact⟨i,hi,hk _ h⟩
 ·exact h.elim
omit hb in
theorem oO{sz:Nat}{rows:List (List F)}(h:kF sz rows=true):∀r∈rows,r.length=sz:=by
 intro r hr;unfold kF at h;rw[OF] at h;exact Nat.eq_of_beq_eq_true (h r hr)
theorem Gi{t':Nat}{x:D}{lo hi:Option (Option D)}{mx:Bool}(h:T (B5 al E t' x lo hi mx k)):gV E t' x lo hi mx (fun d rd e=>T (k d rd e)):=by
 unfold B5 at h
 split at h
 ·exact(hb.bot h).elim
 ·unfold gV;simp only[cond_false]
  split at h
  ·split at h
   ·rename_i he;simp only[he];refine lF (pO hb h) fun l h=>lF (pO hb h) fun hh h=>?_
    obtain⟨h1,h⟩:=aE hb h;simp only[Oi] at h1;rw[jV] at h1;rw[xS] at h;exact⟨On h1.1,On h1.2,h⟩
   ·rename_i he;simp only[he];refine lF (pO hb h) fun l h=>lF (pO hb h) fun hh h=>?_
    obtain⟨h1,h⟩:=aE hb h;simp only[Oi] at h1;exact⟨On h1.1.1,On h1.1.2,oO h1.2,h⟩
   ·exact(hb.bot h).elim
  ·exact(hb.bot h).elim
theorem Bx{j:Nat}{x:D}(h:T (sH al x j k)):fR x j (fun d rd e=>T (k d rd e)):=by
 unfold sH at h;unfold fR
 split at h
 ·exact js hb h
 ·exact(hb.bot h).elim
theorem Ib{t':Nat}{ps:List (Nat×Option D)}(h:T (Bf al E t' ps k)):gY E t' ps (fun d rd e=>T (k d rd e)):=by
 unfold Bf at h;unfold gY
 split at h
 ·rename_i he;simp only[he]
  split at h
  ·rename_i hf;simp only[hf];exact h
  ·exact(hb.bot h).elim
 ·rename_i he;simp only[he]
  split at h
  ·rename_i hf;simp only[hf];exact h
  ·exact(hb.bot h).elim
 ·exact(hb.bot h).elim
theorem Lu{t' m:Nat}{ps:List (Nat×Option D)}(h:T (Lz al E η t t' m ps k)):o8 E η t t' m ps (fun d rd e=>T (k d rd e)):=by
 unfold Lz at h;unfold o8
 split at h
 ·rename_i he;simp only[he]
  split at h
  ·rename_i hf;obtain⟨h1,h⟩:=aE hb h;simp only[hf,h1,cond_true];exact h
  ·exact(hb.bot h).elim
 ·exact(hb.bot h).elim
theorem Jz{t':Nat}{l c:D}(h:T (GS al E η t t' l c k)):kV E η t t' l c (fun d rd e=>T (k d rd e)):=by
 unfold GS at h;unfold kV
 split at h
 ·rename_i he;simp only[he]
  split at h
  ·rename_i i hi;obtain⟨h1,h⟩:=aE hb h;obtain⟨j,hj,h⟩:=kS hb h;obtain⟨j',hj',h⟩:=kS hb h;obtain⟨h2,h⟩:=aE hb h;simp only[Oi,Pp] at h2;obtain⟨⟨h2,h3⟩,h4⟩:=h2;simp only[hi];exact⟨Nat.eq_of_beq_eq_true h1,j,hj,j',hj',h2.imp Nat.eq_of_beq_eq_true Nat.eq_of_beq_eq_true,On h3,On h4,h⟩
  ·exact(hb.bot h).elim
 ·exact(hb.bot h).elim
theorem L8{t':Nat}{x:D}(h:T (LH al E η t' x k)):lL E η t' x (fun d rd e=>T (k d rd e)):=by
 unfold LH at h;unfold lL
 split at h
 ·rename_i he
  split at h
  ·simp only[he];exact h
  ·exact(hb.bot h).elim
 ·rename_i he
  split at h
  ·simp only[he];exact h
  ·simp only[he];exact h
  ·simp only[he]
   split at h
   ·rename_i hη;obtain⟨h1,h⟩:=aE hb h;simp only[hη,h1,cond_true];exact h
   ·exact(hb.bot h).elim
  ·exact(hb.bot h).elim
 ·exact(hb.bot h).elim
theorem Es{t':Nat}{x y:D}(h:T (xz al E η t t' x y k)):fD E η t t' x y (fun d rd e=>T (k d rd e)):=by
 unfold xz at h;unfold fD
 split at h
 ·rename_i he hs;simp only[he,hs]
  split at h
  ·split at h
   ·rename_i hη;obtain⟨h1,h⟩:=aE hb h;simp only[Oi] at h1;obtain⟨⟨⟨⟨⟨h1,h2⟩,h3⟩,h4⟩,h5⟩,h6⟩:=h1;simp only[hη,h1,h2,h3,Bool.and_self,cond_true];exact⟨oO h4,On h5,On h6,h⟩
   ·exact(hb.bot h).elim
  ·obtain⟨h1,h⟩:=aE hb h;simp only[Oi] at h1;exact⟨oO h1.1.1,On h1.1.2,On h1.2,h⟩
  ·exact(hb.bot h).elim
 ·exact(hb.bot h).elim
omit hb in
theorem pJ:∀{rows:List (List F)} {bs:List UInt8},bytesOf rows=some bs→rows=bs.map fun b=>[.vl (.int .u8 b.toNat)]
 | [],bs,h=>by simp[bytesOf] at h;simp[←h]
 | r :: l,bs,h=>by
  simp only[bytesOf] at h
  split at h
  ·rename_i n
   cases hn:Nat.blt n 256 with
   | false=>rw[hn] at h;cases h
   | true=>
    rw[hn] at h;simp only[cond_true] at h
    split at h
    ·rename_i m hm
     cases h;have:=cF hn;rw[OB,←pJ hm];have e:(UInt8.ofNat n).toNat=n:=by simp;omega
     rw[e];rfl
    ·cases h
  ·cases h
theorem IT{t1 t2:Nat}{x:D}(h:T (Gy al E η t1 t2 x k)):lB E η t1 t2 x (fun d rd e=>T (k d rd e)):=by
 unfold Gy at h;unfold lB
 split at h
 ·rename_i e1 e2
  split at h
  ·obtain⟨h1,h2⟩:=aE hb h;simp only[e1,e2];rw[Ge] at h1;subst h1;simp only[decide_true,cond_true];exact⟨_,rfl,hb.kC h2⟩
  ·exact(hb.bot h).elim
 ·rename_i e1 e2
  split at h
  ·rename_i e3
   split at h
   ·rename_i rows rd hs
    split at h
    ·rename_i bs hbs;obtain⟨h1,h⟩:=aE hb h;simp only[e1,e2,e3,hs];exact⟨Nat.eq_of_beq_eq_true h1,bs,pJ hbs,h⟩
    ·exact(hb.bot h).elim
   ·exact(hb.bot h).elim
  ·exact(hb.bot h).elim
 ·exact(hb.bot h).elim
variable {Gr:CR R} {G:CG} {ρ:Operand→Option D}
theorem IW(hG:∀t η f l k,T (Gr t η f l k)→G t η f l (fun d rd e=>T (k d rd e))){c:Call}(h:T (G9 al E η t Gr ρ c k)):fu E η t G ρ c (fun d rd e=>T (k d rd e)):=by
 unfold G9 at h;unfold fu
 split at h
 ·rename_i hc
  split at h
  ·rename_i e1 e2
   split at h
   ·rename_i hx;simp only[hx,hc,e1,e2];exact L8 hb h
   ·exact(hb.bot h).elim
  ·exact(hb.bot h).elim
 ·rename_i hc
  split at h
  ·rename_i e1 e2
   split at h
   ·rename_i hx hy;obtain⟨h1,h⟩:=aE hb h;simp only[hx,hy,h1,cond_true,hc,e1,e2];exact Es hb h
   ·exact(hb.bot h).elim
  ·exact(hb.bot h).elim
 ·rename_i hc
  split at h
  ·rename_i e1
   split at h
   ·rename_i a b hx hy;simp only[hx,hy,hc,e1];have e:(bif leI a b then b else a)=max a b:=by
     rw[ed]
     by_cases hl:a≤b
     ·simp[hl];omega
     ·simp[hl];omega
    rw[e] at h;exact h
   ·exact(hb.bot h).elim
  ·exact(hb.bot h).elim
 ·rename_i hc
  split at h
  ·rename_i e1
   split at h
   ·rename_i a b hx hy;simp only[hx,hy,hc,e1];have e:(bif leI a b then a else b)=min a b:=by
     rw[ed]
     by_cases hl:a≤b
     ·simp[hl];omega
     ·simp[hl];omega
    rw[e] at h;exact h
   ·exact(hb.bot h).elim
  ·exact(hb.bot h).elim
 ·rename_i hc
  split at h
  ·rename_i hf hl;simp only[hf,hl,hc];exact hG _ _ _ _ _ h
  ·rename_i hf hl;simp only[hf,hl,hc];exact hG _ _ _ _ _ h
  ·exact(hb.bot h).elim
 ·exact(hb.bot h).elim
theorem Kl(hG:∀t η f l k,T (Gr t η f l k)→G t η f l (fun d rd e=>T (k d rd e))){op:Op}(h:T (KV al E η t Gr ρ op k)):Vc.wpOp E η t G ρ op (fun d rd e=>T (k d rd e)):=by
 unfold KV at h;unfold Vc.wpOp
 split at h
 ·split at h
  ·rename_i hx;simp only[hx];exact h
  ·exact(hb.bot h).elim
 ·split at h
  ·rename_i hx;simp only[hx];exact h
  ·exact(hb.bot h).elim
 ·split at h
  ·rename_i hx hy hz;simp only[hx,hy,hz];exact CN hb h
  ·exact(hb.bot h).elim
 ·split at h
  ·rename_i hi;obtain⟨h1,h⟩:=aE hb h;simp only[hi,h1,cond_true];exact h
  ·exact(hb.bot h).elim
 ·split at h
  ·rename_i hx;simp only[hx];exact aE hb h
  ·exact(hb.bot h).elim
 ·exact Ib hb h
 ·exact Lu hb h
 ·split at h
  ·rename_i hx;simp only[hx];exact I1 hb h
  ·exact(hb.bot h).elim
 ·split at h
  ·rename_i hx hy;simp only[hx,hy];exact GA hb h
  ·exact(hb.bot h).elim
 ·split at h
  ·rename_i hx;simp only[hx];exact h
  ·rename_i hx;simp only[hx];exact h
  ·rename_i hx;simp only[hx];exact h
  ·rename_i hx;simp only[hx];exact h
  ·rename_i hx;simp only[hx];exact h
  ·exact(hb.bot h).elim
 ·split at h
  ·rename_i hx hy;simp only[hx,hy]
   split at h
   ·rename_i he;simp only[he];exact Lo hb h
   ·rename_i he;simp only[he]
    split at h
    ·rename_i hie;obtain⟨h1,h⟩:=aE hb h;simp only[hie,h1,cond_true];exact K2 hb h
    ·exact(hb.bot h).elim
   ·rename_i he1 he2
    split
    ·rename_i hee;exact absurd hee (he1 _ _)
    ·rename_i hee;exact absurd hee (he2 _ _ _ _ _)
    ·exact L4 hb h
  ·exact(hb.bot h).elim
 ·split at h
  ·rename_i hx;simp only[hx];exact M3 hb h
  ·exact(hb.bot h).elim
 ·split at h
  ·rename_i hx;simp only[hx];exact IT hb h
  ·exact(hb.bot h).elim
 ·split at h
  ·rename_i hf hl;simp only[hf,hl];exact h
  ·exact(hb.bot h).elim
 ·split at h
  ·rename_i hx hy;simp only[hx,hy];exact Jz hb h
  ·exact(hb.bot h).elim
 ·split at h
  ·rename_i hx;simp only[hx];exact Gi hb h
  ·exact(hb.bot h).elim
 ·split at h
  ·rename_i hx;simp only[hx];exact xC hb h
  ·exact(hb.bot h).elim
 ·split at h
  ·rename_i hx;simp only[hx];exact HO hb h
  ·exact(hb.bot h).elim
 ·split at h
  ·rename_i hx hy;simp only[hx,hy];exact xc hb h
  ·exact(hb.bot h).elim
 ·split at h
  ·rename_i hx hy;simp only[hx,hy];exact HK hb h
  ·exact(hb.bot h).elim
 ·split at h
  ·rename_i hx;simp only[hx];exact Bx hb h
  ·exact(hb.bot h).elim
 ·exact IW hb hG h
 ·exact(hb.bot h).elim
theorem Kb{Q:Nat→Bool}(hG:∀t η f l k,T (Gr t η f l k)→G t η f l (fun d rd e=>T (k d rd e))){op:Op}(h:T (opG al E η t Q Gr ρ op k)):y9 Q E η t G ρ op (fun d rd e=>T (k d rd e)):=by
 unfold opG at h
 cases e:Nn Q E ρ op with
 | true=>rw[e] at h;exact .inr (KT hb h)
 | false=>rw[e] at h;exact .inl (Kl hb hG h)
end
structure Fi where
 body:Code
 N:Nat
 rs:List ResultVar
structure Tx where
 E:TE
 Γ:Nat→Option (List F)
 fi:Nat→Option Fi
 pu:Nat→Bool
 Q:Nat→Bool
 bd:Nat→Nat
 bt:Nat→Nat
 u8:Nat
 hp:Nat→Bool
structure Orc (R:Type) where
 pu:FuncId→List F→(F×Bool→R)→R
 he:Nat→Env→FuncId→List D→Kr R→R
inductive KI where
 | code (c:Code)
 | blk (id:Nat)
 | loop (c:Code)
 | scope (c:Code)
 | reg (ops:Array Oper) (l:List Oper)
 | rf (b v:Nat)
 | erf (b v:Nat)
 | br
structure Fm where
 f:Nat
 N:Nat
 s:List (Nat×D)
 k:List KI
 ds:List (Nat×Nat)
 ro:Option (Nat×Nat)
structure Cfg where
 top:Fm
 cs:List Fm
 h:List (Nat×B)
 nx:Nat
def pP:Nat→List D→List (Nat×D)
 | _,[]=>[]
 | i,d :: l=>(i,d) :: pP (i+1) l
def eP(id:Nat):List KI→Option (List KI)
 | .blk id' :: k=>bif Nat.beq id' id then some k else eP id k
 | _ :: k=>eP id k
 | []=>none
def eV(l:Nat):List KI→Option (List KI)
 | .scope body :: k=>match findLabel body l with
  | some rest=>some (.code rest :: .scope body :: k)
  | none=>eV l k
 | _ :: k=>eV l k
 | []=>none
def E0:List Nat→List D→List (Nat×D)→List (Nat×D)
 | p :: ps,d :: ds,s=>E0 ps ds ((p,d) :: s)
 | _,_,s=>s
def dOk(N:Nat):Option Nat→Bool
 | some t=>Nat.blt t N
 | none=>true
def nD(s:List (Nat×D))(dst:Option Nat)(d:D):List (Nat×D):=match dst with
 | some t=>(t,d) :: s
 | none=>s
def uS:List (Nat×Nat)→List (Nat×B)→Option (List (Nat×B))
 | [],h=>some h
 | (b,v) :: l,h=>match lk h b with
  | some (.df v')=>bif Nat.beq v v' then uS l ((b,.gone v) :: h) else none
  | _=>none
mutual
def N1:D→Bool
 | .ptr _ _ _=>true
 | .rp _ _ _ _ _=>true
 | .yl _ _=>true
 | .ag l=>jg l
 | .tp l=>jg l
 | .cl _ l=>jg l
 | .mcl _ l m=>jg l||jg m
 | _=>false
def jg:List D→Bool
 | []=>false
 | d :: l=>N1 d||jg l
end
mutual
def cY(η:Env):D→Bool
 | .fr x=>x.flat
 | .ag l=>mR η l
 | .tp l=>mR η l
 | .cl _ l=>mR η l
 | .own b v=>match η b with
  | some (.ro _ _ _ rows)=>rows.all F.flat.lK
  | _=>false
 | .sub b v sz lo hi ex=>match η b with
  | some (.ro _ _ _ rows)=>rows.all F.flat.lK
  | _=>false
 | _=>false
def mR(η:Env):List D→Bool
 | []=>true
 | d :: l=>cY η d&&mR η l
end
section
variable {R:Type} (al:Al R) (X:Tx) (O:Orc R) (fin:D→List (Nat×B)→R) (K:Cfg→R)
def lS(dr:Bool):CR R:=fun t η f l k=>match X.hp f with
 | true=>O.he t η f l k
 | false=>match X.bd f with
 | kind+1=>(match bdX X.E (X.bt f) X.u8 (kind+1) t η l with
 | some (d,rd,e)=>k d rd e
 | none=>al.bot)
 | 0=>match cX (D.toF η 6) l with
 | some (fl,is)=>O.pu f fl fun r=>bif r.1.flat||r.2 then k r.1.toD is [] else bif dr && !is.isEmpty then al.bot else k r.1.toD is (aZ η is)
 | none=>al.bot
def na(c:Fm)(d:D)(cs:List Fm)(h:List (Nat×B))(nx:Nat):R:=match c.k with
 | .reg ops (o :: l) :: k=>al.au (dOk c.N o.dst) (K ⟨{ c with s:=nD c.s o.dst d,k:=.reg ops l :: k },cs,h,nx⟩)
 | .rf b v :: k=>K ⟨{ c with k:=.erf b v :: k },cs,h,nx⟩
 | _=>al.bot
def Ew(c:Cfg):R:=match X.fi c.top.f,uS c.top.ds c.h with
 | some fi,some h=>(match kN (fi.rs.map (EH X.E ⟨c.top.s,h⟩)) with
  | some ds=>(match c.cs with
   | []=>fin (qw ds) h
   | c1 :: cs=>na al K c1 (qw ds) cs h c.nx)
  | none=>al.bot)
 | _,_=>al.bot
def mj(c:Cfg)(j:Option Code):R:=match c.top.ro with
 | none=>(match j with
  | none=>Ew al X fin K c
  | some .ret=>Ew al X fin K c
  | _=>al.bot)
 | some (b,v)=>(match lk c.h b,c.cs,c.top.ds with
  | some (.lp v' L),c1 :: cs,[]=>al.au (Nat.beq v v') (na al K c1 (Bo j.isNone) cs ((b,.lp v { L with st:=bif j.isNone then 0 else 2,jR:=j }) :: c.h) c.nx)
  | _,_,_=>al.bot)
def gz(f:Nat)(l:List D)(cs:List Fm)(h:List (Nat×B))(nx:Nat):R:=match X.fi f with
 | some fi=>al.au (Nat.ble l.length fi.N) (K ⟨⟨f,fi.N,pP 0 l,[.code fi.body],[],none⟩,cs,h,nx⟩)
 | none=>al.bot
def vU(c:Cfg)(o:Oper)(ops:Array Oper)(l:List Oper)(k:List KI):R:=
 let fm:={ c.top with k:=.reg ops l :: k }
 let put:Kr R:=fun d _ e=>K ⟨{ fm with s:=nD fm.s o.dst d },c.cs,e++c.h,c.nx+1⟩
 al.au (dOk c.top.N o.dst) (match o.op with
  | .call ⟨.value x,args,tys⟩=>(match evD X.Γ c.top.s x,kN (args.toList.map (evD X.Γ c.top.s)) with
   | some (.cl f cs),some a=>bif X.hp f||Nat.blt 0 (X.bd f)||(X.pu f && !jg (a++cs)) then lS al X O false c.nx (lk c.h) f (a++cs) put else gz al X K f (a++cs) ({ c.top with k:=.reg ops (o :: l) :: k } :: c.cs) c.h c.nx
   | some (.fr (.cl f cs)),some a=>bif X.hp f||Nat.blt 0 (X.bd f)||(X.pu f && !jg a) then lS al X O false c.nx (lk c.h) f (a++cs.map F.toD) put else gz al X K f (a++cs.map F.toD) ({ c.top with k:=.reg ops (o :: l) :: k } :: c.cs) c.h c.nx
   | some (.mcl f fs cs),some a=>bif X.hp f||Nat.blt 0 (X.bd f)||(X.pu f && !jg (fs++a++cs)) then lS al X O false c.nx (lk c.h) f (fs++a++cs) put else gz al X K f (fs++a++cs) ({ c.top with k:=.reg ops (o :: l) :: k } :: c.cs) c.h c.nx
   | some (.yl b v),some a=>(match lk c.h b with
    | some (.lp v' L)=>al.au (Nat.beq v v'&&Nat.beq a.length L.ps.length&&L.ps.all fun p=>Nat.blt p L.N)
      (K ⟨⟨L.f,L.N,E0 L.ps a L.s,[.code L.asg,.br,.code L.body],[],some (b,v)⟩,{ c.top with k:=.reg ops (o :: l) :: k } :: c.cs,c.h,c.nx⟩)
    | _=>al.bot)
   | _,_=>al.bot)
  | op=>opG al X.E (lk c.h) c.nx X.Q (fun _ _ _ _ _=>al.bot) (evD X.Γ c.top.s) op put)
def pv(ops:Array Oper):Bool:=ops.toList.all fun o=>match o.op with
 | .defer _=>false
 | _=>true
def o7(N:Nat)(b0:Nat)(ops:Array Oper)(K:List (Nat×D)→List (Nat×B)→R):List Ac→List Oper→List (Nat×D)→List (Nat×B)→R
 | acc,[],s,h=>al.au (okD ops acc.reverse) (K s h)
 | acc,o :: l,s,h=>al.au (dOk N o.dst) (match o.guard with
  | none=>opG al X.E (lk h) (b0+o.dst.getD 0) X.Q (lS al X O true) (evD X.Γ s) o.op fun d rd e=>o7 N b0 ops K (.ex d rd e :: acc) l (nD s o.dst d) (e++h)
  | some (j,want)=>match gd ops j with
   | some dj=>al.au (Nat.blt dj N) (match lk s dj with
    | some (.fr (.vl (.bool b)))=>al.oJ (qj b want)
     (let s:=(dj,.fr (.vl (.bool want))) :: s;opG al X.E (lk h) (b0+o.dst.getD 0) X.Q (lS al X O true) (evD X.Γ s) o.op fun d rd e=>o7 N b0 ops K (.ex d rd e :: acc) l (nD s o.dst d) (e++h))
     (let s:=(dj,.fr (.vl (.bool (!want)))) :: s;o7 N b0 ops K (.sk :: acc) l (nD s o.dst Un) h)
    | some (.fr (.vl (.tuple _)))=>o7 N b0 ops K (.sk :: acc) l (nD s o.dst Un) h
    | _=>al.bot)
   | none=>al.bot)
def stepG(c:Cfg):R:=match c.top.k with
 | []=>mj al X fin K c none
 | .code cd :: k=>(match cd with
  | .skip=>K { c with top:={ c.top with k:=k } }
  | .label _=>K { c with top:={ c.top with k:=k } }
  | .seq a b=>K { c with top:={ c.top with k:=.code a :: .code b :: k } }
  | .cond x a b=>F6 al ((evD X.Γ c.top.s x).getD Un) fun q=>al.oJ q (K { c with top:={ c.top with k:=.code a :: k } }) (K { c with top:={ c.top with k:=.code b :: k } })
  | .block id b=>K { c with top:={ c.top with k:=.code b :: .blk id :: k } }
  | .loop b=>K { c with top:={ c.top with k:=.loop b :: k } }
  | .scope b=>K { c with top:={ c.top with k:=.code b :: .scope b :: k } }
  | .exit id=>(match eP id k with
   | some k'=>K { c with top:={ c.top with k:=k' } }
   | none=>mj al X fin K c (some (.exit id)))
  | .goto l=>(match eV l k with
   | some k'=>K { c with top:={ c.top with k:=k' } }
   | none=>mj al X fin K c (some (.goto l)))
  | .ret=>mj al X fin K c (some .ret)
  | .region id ops false=>K { c with top:={ c.top with k:=.reg ops ops.toList :: k } }
  | .region id ops true=>al.au (pv ops) <| o7 al X O c.top.N c.nx ops (fun s h=>K { c with top:={ c.top with s:=s,k:=k },h:=h,nx:=c.nx+c.top.N }) [] ops.toList c.top.s c.h
  | .rangeFunc x ps a b=>(match evD X.Γ c.top.s x with
   | some d=>(match c.top.ro with
    | none=>
     let h:=(c.nx+1,.lp (nv (up (lk c.h) c.nx (.df (nv (lk c.h) c.nx))) (c.nx+1)) ⟨0,none,c.top.f,c.top.N,c.top.s,ps.toList,a,b,c.nx,nv (lk c.h) c.nx⟩) :: (c.nx,.df (nv (lk c.h) c.nx)) :: c.h
     let v:=nv (up (lk c.h) c.nx (.df (nv (lk c.h) c.nx))) (c.nx+1)
     let fm:={ c.top with k:=.rf (c.nx+1) v :: k,ds:=(c.nx,nv (lk c.h) c.nx) :: c.top.ds }
     (match d with
     | .cl f cs=>gz al X K f (.yl (c.nx+1) v :: cs) (fm :: c.cs) h (c.nx+2)
     | .fr (.cl f cs)=>gz al X K f (.yl (c.nx+1) v :: cs.map F.toD) (fm :: c.cs) h (c.nx+2)
     | _=>al.bot)
    | some (b0,v0)=>(match lk c.h b0 with
     | some (.lp v' L)=>al.au (Nat.beq v0 v') (
      let v:=nv (lk c.h) c.nx
      let h:=(c.nx,.lp v ⟨0,none,c.top.f,c.top.N,c.top.s,ps.toList,a,b,L.db,L.dv⟩) :: c.h
      let fm:={ c.top with k:=.rf c.nx v :: k }
      match d with
      | .cl f cs=>gz al X K f (.yl c.nx v :: cs) (fm :: c.cs) h (c.nx+1)
      | .fr (.cl f cs)=>gz al X K f (.yl c.nx v :: cs.map F.toD) (fm :: c.cs) h (c.nx+1)
      | _=>al.bot)
     | _=>al.bot))
   | none=>al.bot)
  | .refuse _=>al.bot)
 | .blk _ :: k=>K { c with top:={ c.top with k:=k } }
 | .scope _ :: k=>K { c with top:={ c.top with k:=k } }
 | .loop b :: k=>K { c with top:={ c.top with k:=.code b :: .loop b :: k } }
 | .reg ops [] :: k=>K { c with top:={ c.top with k:=k } }
 | .reg ops (o :: l) :: k=>(match o.guard with
  | none=>vU al X O K c o ops l k
  | some (j,want)=>match gd ops j with
   | some dj=>al.au (Nat.blt dj c.top.N) (match lk c.top.s dj with
    | some (.fr (.vl (.bool b)))=>al.oJ (qj b want)
     (vU al X O K { c with top:={ c.top with s:=(dj,.fr (.vl (.bool want))) :: c.top.s } } o ops l k)
     (al.au (dOk c.top.N o.dst) (K { c with top:={ c.top with s:=nD ((dj,.fr (.vl (.bool (!want)))) :: c.top.s) o.dst Un,k:=.reg ops l :: k } }))
    | some (.fr (.vl (.tuple _)))=>al.au (dOk c.top.N o.dst) (K { c with top:={ c.top with s:=nD c.top.s o.dst Un,k:=.reg ops l :: k } })
    | _=>al.bot)
   | none=>al.bot)
 | .rf _ _ :: _=>al.bot
 | .erf b v :: k=>(match lk c.h b with
  | some (.lp v' L)=>al.au (Nat.beq v v' && !Nat.beq L.st 1) (K { c with top:={ c.top with k:=(match L.jR with|some j=>.code j :: k|none=>k) },h:=(b,.lp v { L with st:=3 }) :: c.h })
  | _=>al.bot)
 | .br :: k=>(match c.top.ro with
  | some (b,v)=>(match lk c.h b with
   | some (.lp v' L)=>al.au (Nat.beq v v'&&Nat.beq L.st 0) (K { c with top:={ c.top with k:=k },h:=(b,.lp v { L with st:=1 }) :: c.h })
   | _=>al.bot)
  | none=>al.bot)
end
end Go.Km
end
section
namespace Go.Km
open Go Go.RowKit Go.Vc
open Go.Sl hiding lk
abbrev At0(c:Cf)(b v g:Nat):Prop:=c.ι b v=some (some ⟨g,0,none⟩,0,0)
def bF(f:Nat)(ro:Option Nat):Frame:={ (default:Frame) with fn:=f,kind:=.normal,roundOf:=ro }
def KI.ok(c:Cf):KI→Item→Prop
 | .code cd,it=>it=.code cd
 | .blk id,it=>it=.inBlock id
 | .loop cd,it=>it=.inLoop cd
 | .scope cd,it=>it=.inScope cd
 | .reg ops l,it=>∃il:List Nat,it=.inRegion ops il∧il.map (fun i=>ops[i]?)=l.map some
 | .rf b v,it=>∃g,it=.inRangeFunc g∧At0 c b v g
 | .erf b v,it=>∃g,it=.endRangeFunc g∧At0 c b v g
 | .br,it=>it=.beginRound
def KIs(c:Cf):List KI→List Item→Prop
 | [],t=>t=[]
 | x :: l,t=>∃it t',t=it :: t'∧x.ok c it∧KIs c l t'
def bQ(c:Cf):List (Nat×Nat)→List Deferred→Prop
 | [],ds=>ds=[]
 | p :: l,ds=>∃gs ds',ds=gs.map (fun g=>{ target:=.collected g,args:=#[] })++ds'∧AtM c p.1 p.2 gs∧bQ c l ds'
def lg(c:Cf):Option (Nat×Nat)→Option Nat→Prop
 | none,r=>r=none
 | some p,r=>∃g,r=some g∧At0 c p.1 p.2 g
structure tB(c:Cf)(fm:Fm)(fr:Frame):Prop where
 ex:∃(a:Act) (todo:List Item) (ro:Option Nat),fr=(bF fm.f ro).atR a todo∧bN c fm.N fm.s a.tmps∧KIs c fm.k todo∧bQ c fm.ds a.defers∧lg c fm.ro ro
def Fms(c:Cf):List Fm→List Frame→Prop
 | [],fs=>fs=[]
 | m :: l,fs=>∃f fs',fs=f :: fs'∧tB c m f∧Fms c l fs'
def fS:Fm→List Fm→Nat
 | m,[]=>m.f
 | _,m :: l=>fS m l
section
variable {c c':Cf}
theorem KI.ok.le(h:c.le c'):∀{x:KI} {it:Item},x.ok c it→x.ok c' it
 | .code _,_,hx=>hx
 | .blk _,_,hx=>hx
 | .loop _,_,hx=>hx
 | .scope _,_,hx=>hx
 | .reg _ _,_,hx=>hx
 | .rf _ _,_,⟨g,h1,h2⟩=>⟨g,h1,h.ι _ _ _ h2⟩
 | .erf _ _,_,⟨g,h1,h2⟩=>⟨g,h1,h.ι _ _ _ h2⟩
 | .br,_,hx=>hx
theorem KIs.le(h:c.le c'):∀{l:List KI} {t:List Item},KIs c l t→KIs c' l t
 | [],_,hx=>hx
 | _ :: _,_,⟨it,t',h1,h2,h3⟩=>⟨it,t',h1,h2.le h,KIs.le h h3⟩
theorem bQ.le(h:c.le c'):∀{l:List (Nat×Nat)} {t:List Deferred},bQ c l t→bQ c' l t
 | [],_,hx=>hx
 | _ :: _,_,⟨g,t',h1,h2,h3⟩=>⟨g,t',h1,h2.le h,bQ.le h h3⟩
theorem lg.le(h:c.le c'):∀{r:Option (Nat×Nat)} {t:Option Nat},lg c r t→lg c' r t
 | none,_,hx=>hx
 | some _,_,⟨g,h1,h2⟩=>⟨g,h1,h.ι _ _ _ h2⟩
theorem tB.le(h:c.le c'){fm:Fm}{fr:Frame}:tB c fm fr→tB c' fm fr
 | ⟨a,todo,ro,h1,h2,h3,h4,h5⟩=>⟨a,todo,ro,h1,h2.le h,h3.le h,h4.le h,h5.le h⟩
theorem Fms.le(h:c.le c'):∀{l:List Fm} {t:List Frame},Fms c l t→Fms c' l t
 | [],_,hx=>hx
 | _ :: _,_,⟨f,t',h1,h2,h3⟩=>⟨f,t',h1,h2.le h,Fms.le h h3⟩
theorem gC{id:Nat}:∀{k k':List KI} {t:List Item},eP id k=some k'→KIs c k t→∃t',exitTo id t=some t'∧KIs c k' t'
 | [],_,_,h,_=>by simp[eP] at h
 | x :: l,k',t,h,⟨it,t1,e,hx,hl⟩=>by
  subst e
  cases x with
  | blk id'=>
   simp only[eP] at h;have hx:it=.inBlock id':=hx;subst hx
   cases hb:Nat.beq id' id with
   | true=>
    rw[hb] at h;simp at h;subst h;have:=Nat.eq_of_beq_eq_true hb;subst this;exact⟨t1,by simp[exitTo],hl⟩
   | false=>
    rw[hb] at h;obtain⟨t',h1,h2⟩:=gC (k:=l) h hl;have hne:(id'==id)=false:=by rw[beq_eq_false_iff_ne];intro e;rw[e] at hb;simp at hb
    exact⟨t',by simp only[exitTo,hne];exact h1,h2⟩
  | code _=>have hx:it=_:=hx;subst hx;simp only[eP] at h;exact(gC (k:=l) h hl).imp fun t' ht=>⟨by simpa [exitTo] using ht.1,ht.2⟩
  | loop _=>have hx:it=_:=hx;subst hx;simp only[eP] at h;exact(gC (k:=l) h hl).imp fun t' ht=>⟨by simpa [exitTo] using ht.1,ht.2⟩
  | scope _=>have hx:it=_:=hx;subst hx;simp only[eP] at h;exact(gC (k:=l) h hl).imp fun t' ht=>⟨by simpa [exitTo] using ht.1,ht.2⟩
  | br=>have hx:it=_:=hx;subst hx;simp only[eP] at h;exact(gC (k:=l) h hl).imp fun t' ht=>⟨by simpa [exitTo] using ht.1,ht.2⟩
  | reg _ _=>obtain⟨il,rfl,_⟩:=hx;simp only[eP] at h;exact(gC (k:=l) h hl).imp fun t' ht=>⟨by simpa [exitTo] using ht.1,ht.2⟩
  | rf _ _=>obtain⟨il,rfl,_⟩:=hx;simp only[eP] at h;exact(gC (k:=l) h hl).imp fun t' ht=>⟨by simpa [exitTo] using ht.1,ht.2⟩
  | erf _ _=>obtain⟨il,rfl,_⟩:=hx;simp only[eP] at h;exact(gC (k:=l) h hl).imp fun t' ht=>⟨by simpa [exitTo] using ht.1,ht.2⟩
theorem cg{id:Nat}:∀{k:List KI} {t:List Item},eP id k=none→KIs c k t→exitTo id t=none
 | [],t,_,h=>by have h:t=[]:=h;subst h;rfl
 | x :: l,t,h,⟨it,t1,e,hx,hl⟩=>by
  subst e
  cases x with
  | blk id'=>
   simp only[eP] at h;have hx:it=.inBlock id':=hx;subst hx
   cases hb:Nat.beq id' id with
   | true=>rw[hb] at h;cases h
   | false=>
    rw[hb] at h;have hne:(id'==id)=false:=by rw[beq_eq_false_iff_ne];intro e;rw[e] at hb;simp at hb
    simp only[exitTo,hne];exact cg (k:=l) h hl
  | code _=>have hx:it=_:=hx;subst hx;simp only[eP] at h;simpa [exitTo] using cg (k:=l) h hl
  | loop _=>have hx:it=_:=hx;subst hx;simp only[eP] at h;simpa [exitTo] using cg (k:=l) h hl
  | scope _=>have hx:it=_:=hx;subst hx;simp only[eP] at h;simpa [exitTo] using cg (k:=l) h hl
  | br=>have hx:it=_:=hx;subst hx;simp only[eP] at h;simpa [exitTo] using cg (k:=l) h hl
  | reg _ _=>obtain⟨il,rfl,_⟩:=hx;simp only[eP] at h;simpa [exitTo] using cg (k:=l) h hl
  | rf _ _=>obtain⟨il,rfl,_⟩:=hx;simp only[eP] at h;simpa [exitTo] using cg (k:=l) h hl
  | erf _ _=>obtain⟨il,rfl,_⟩:=hx;simp only[eP] at h;simpa [exitTo] using cg (k:=l) h hl
theorem gu{l:Nat}:∀{k k':List KI} {t:List Item},eV l k=some k'→KIs c k t→∃t',gotoIn l t=some t'∧KIs c k' t'
 | [],_,_,h,_=>by simp[eV] at h
 | x :: r,k',t,h,⟨it,t1,e,hx,hl⟩=>by
  subst e
  cases x with
  | scope body=>
   simp only[eV] at h;have hx:it=.inScope body:=hx;subst hx
   split at h
   ·rename_i rest hr
    cases h;exact⟨.code rest :: .inScope body :: t1,by simp[gotoIn,hr],⟨_,_,rfl,rfl,_,_,rfl,rfl,hl⟩⟩
   ·rename_i hr;obtain⟨t',h1,h2⟩:=gu (k:=r) h hl;exact⟨t',by simp only[gotoIn,hr];exact h1,h2⟩
  | code _=>have hx:it=_:=hx;subst hx;simp only[eV] at h;exact(gu (k:=r) h hl).imp fun t' ht=>⟨by simpa [gotoIn] using ht.1,ht.2⟩
  | loop _=>have hx:it=_:=hx;subst hx;simp only[eV] at h;exact(gu (k:=r) h hl).imp fun t' ht=>⟨by simpa [gotoIn] using ht.1,ht.2⟩
  | blk _=>have hx:it=_:=hx;subst hx;simp only[eV] at h;exact(gu (k:=r) h hl).imp fun t' ht=>⟨by simpa [gotoIn] using ht.1,ht.2⟩
  | br=>have hx:it=_:=hx;subst hx;simp only[eV] at h;exact(gu (k:=r) h hl).imp fun t' ht=>⟨by simpa [gotoIn] using ht.1,ht.2⟩
  | reg _ _=>obtain⟨il,rfl,_⟩:=hx;simp only[eV] at h;exact(gu (k:=r) h hl).imp fun t' ht=>⟨by simpa [gotoIn] using ht.1,ht.2⟩
  | rf _ _=>obtain⟨il,rfl,_⟩:=hx;simp only[eV] at h;exact(gu (k:=r) h hl).imp fun t' ht=>⟨by simpa [gotoIn] using ht.1,ht.2⟩
  | erf _ _=>obtain⟨il,rfl,_⟩:=hx;simp only[eV] at h;exact(gu (k:=r) h hl).imp fun t' ht=>⟨by simpa [gotoIn] using ht.1,ht.2⟩
theorem ca{l:Nat}:∀{k:List KI} {t:List Item},eV l k=none→KIs c k t→gotoIn l t=none
 | [],t,_,h=>by have h:t=[]:=h;subst h;rfl
 | x :: r,t,h,⟨it,t1,e,hx,hl⟩=>by
  subst e
  cases x with
  | scope body=>
   simp only[eV] at h;have hx:it=.inScope body:=hx;subst hx
   split at h
   ·cases h
   ·rename_i hr;simp only[gotoIn,hr];exact ca (k:=r) h hl
  | code _=>have hx:it=_:=hx;subst hx;simp only[eV] at h;simpa [gotoIn] using ca (k:=r) h hl
  | loop _=>have hx:it=_:=hx;subst hx;simp only[eV] at h;simpa [gotoIn] using ca (k:=r) h hl
  | blk _=>have hx:it=_:=hx;subst hx;simp only[eV] at h;simpa [gotoIn] using ca (k:=r) h hl
  | br=>have hx:it=_:=hx;subst hx;simp only[eV] at h;simpa [gotoIn] using ca (k:=r) h hl
  | reg _ _=>obtain⟨il,rfl,_⟩:=hx;simp only[eV] at h;simpa [gotoIn] using ca (k:=r) h hl
  | rf _ _=>obtain⟨il,rfl,_⟩:=hx;simp only[eV] at h;simpa [gotoIn] using ca (k:=r) h hl
  | erf _ _=>obtain⟨il,rfl,_⟩:=hx;simp only[eV] at h;simpa [gotoIn] using ca (k:=r) h hl
end
structure Rl(W:Bs)(f0:Nat)(g:Cfg)(c:Cf)(O:Nat→Nat→Prop)(fr:Frame)(frs:List Frame)(w:World):Prop where
 top:tB c g.top fr
 cs:Fms c g.cs frs
 hp:Hp c O (lk g.h) w
 old:Old W c O w
 bot:fS g.top g.cs=f0
abbrev xN:=D→List (Nat×B)→Prop
def jJ(P:Program)(W:Bs)(cs0:List Frame)(f0:Nat)(r:xN)(m:Machine):Prop:=
 ∃v w' fr d h c' O',Steps P m (lone fr cs0 w')∧fr.fn=f0∧fr.leaving P w' (.returned v)∧r d h∧D.rep c' d v∧Hp c' O' (lk h) w'∧Old W c' O' w'
theorem jJ.of_steps{P:Program}{W:Bs}{cs0:List Frame}{f0:Nat}{r:xN}{m m':Machine}(h:Steps P m m'):jJ P W cs0 f0 r m'→jJ P W cs0 f0 r m
 | ⟨v,w',fr,d,hh,c',O',h1,h2⟩=>⟨v,w',fr,d,hh,c',O',h.trans h1,h2⟩
def Snd(P:Program)(W:Bs)(cs0:List Frame)(f0:Nat)(r:xN)(g:Cfg):Prop:=
 ∀c O fr frs w,Rl W f0 g c O fr frs w→jJ P W cs0 f0 r (lone fr (frs++cs0) w)
def M5(P:Program)(E:TE)(bt u8 kind:Nat)(f:FuncId):Prop:=∀(t:Nat) (η:Env) (l:List D) (d:D) (rd:List Nat) (e:List (Nat×B)),bdX E bt u8 kind t η l=some (d,rd,e)→∀(W:Bs) (c:Cf) (O:Nat→Nat→Prop) (w:World) (vs:List Value),Hp c O η w→Old W c O w→D.aq c l vs→
 CF P f∧Calls P f vs.toArray w (fun e' w'=>∃v,e'=.returned v∧Res W η c (Is3 d rd e) v w')
structure mA(P:Program)(X:Tx):Prop where
 E:∀t i,X.E t=some i→TOk P t i
 fi:∀f i,X.fi f=some i→CF P f∧∃fn,P.funcs[f]?=some fn∧fn.body=some i.body∧fn.ntmps=i.N∧fn.results.toList=i.rs
 mixed:P.follows .mixedOrders=true
 deep:2≤P.depth
 Q:∀t,X.Q t=true→FEq P t
 bd:∀f k,X.bd f=k+1→M5 P X.E (X.bt f) X.u8 (k+1) f
theorem BB{t:Nat}{η η':Env}{b:Nat}{d:D}{rows:List (List F)}{b2 v2:Nat}{rd:List Nat}(h:F9 t η b d=some (rows,b2,v2,rd))(hη:∀i∈rd,η' i=η i):F9 t η' b d=some (rows,b2,v2,rd):=by
 unfold F9 at h ⊢
 split at h
 ·cases h;rw[dq (hη _ (by simp))]
 ·rename_i b3 v
  split at h
  ·rename_i v' e sz rows' hb
   cases hv:(Nat.beq v v'&&Nat.beq sz 1 && !Nat.beq b b3) with
   | false=>rw[hv] at h;cases h
   | true=>
    rw[hv] at h;simp only[cond_true] at h
    cases h;rw[hη _ (by simp),hb];simp only[hv,cond_true]
  ·cases h
 ·cases h
theorem Bi{bt u8 kind t:Nat}{η η':Env}{l:List D}{d:D}{rd:List Nat}{e:List (Nat×B)}(h:I6 bt u8 kind t η l=some (d,rd,e))(hη:∀i∈rd,η' i=η i):I6 bt u8 kind t η' l=some (d,rd,e):=by
 have wh:∀{b:Bool} {x:Ot} {y:D×List Nat×List (Nat×B)},wE b x=some y→b=true∧x=some y:=by
  intro b x y h
  cases b with
  | true=>exact⟨rfl,h⟩
  | false=>cases h
 unfold I6 at h ⊢
 split at h
 ·rename_i b v l
  split at h
  ·rename_i v' ty ad sl hb;obtain⟨h1,h⟩:=wh h
   split at h
   ·rename_i rows b2 v2 rd2 hbuf
    split at h
    ·rename_i bs hbs;have key:∀{rd':List Nat},rd'=b :: rd2→(∀i∈rd',η' i=η i)→η' b=η b∧F9 t η' b sl=some (rows,b2,v2,rd2):=by
      intro rd' e hη;subst e;exact⟨hη b (by simp),BB hbuf (fun i hi=>hη i (by simp[hi]))⟩
     have fin:rd=b :: rd2:=by
      split at h
      ·obtain⟨_,h⟩:=wh h;obtain⟨_,h⟩:=wh h
       cases h;rfl
      ·obtain⟨_,h⟩:=wh h
       cases h;rfl
      ·cases h;rfl
      ·cases h
     obtain⟨k1,k2⟩:=key fin hη;rw[k1,hb];simp only[k2,hbs,h1];exact h
    ·cases h
   ·cases h
  ·cases h
 ·cases h
theorem uH{η η':Env}{d:D}{news:List (List F)}{rd:List Nat}(h:qu η d=some (news,rd))(hη:∀b∈rd,η' b=η b):qu η' d=some (news,rd):=by
 unfold qu at h ⊢
 split at h
 ·rename_i b v sz lo hi ex
  split at h
  ·rename_i v' e sz' rows hb
   cases hv:(Nat.beq v v'&&Nat.beq sz sz') with
   | false=>rw[hv] at h;cases h
   | true=>
    rw[hv] at h;simp only[cond_true] at h
    cases h;rw[hη _ (by simp),hb];simp only[hv,cond_true]
  ·cases h
 ·exact h
 ·exact kP h hη
theorem EI{E:TE}{bt u8 kind t:Nat}{η η':Env}{l:List D}{d:D}{rd:List Nat}{e:List (Nat×B)}(h:bdX E bt u8 kind t η l=some (d,rd,e))(hη:∀i∈rd,η' i=η i):bdX E bt u8 kind t η' l=some (d,rd,e):=by
 unfold bdX at h ⊢
 split at h
 ·split at h
  ·rename_i rd0 hs
   cases h;rw[uH hs hη]
  ·rename_i rows rd0 hne hs
   split at h
   ·rename_i he
    cases hc:(kF _ rows&&Nat.ble rows.length maxLen&&Nat.ble (rows.length * _) 140737488355328) with
    | false=>rw[hc] at h;cases h
    | true=>
     rw[hc] at h
     cases h;rw[uH hs (fun b hb=>hη b (by simp[hb]))]
     cases rows with
     | nil=>exact absurd rfl hne
     | cons r0 rs=>simp only[he,hc,dq (hη t (by simp)),wE,cond_true]
   ·cases h
  ·cases h
 ·exact Bi h hη
structure fj(P:Program)(Γ:Nat→Option (List F))(η:Env)(f:FuncId)(l:List D)(d:D)(rd:List Nat)(e:List (Nat×B)):Prop where
 go:∀η',(∀b∈rd,η' b=η b)→∀(W:Bs) c O w vs,GOk Γ c→Hp c O η' w→Old W c O w→D.aq c l vs→CF P f∧Calls P f vs.toArray w (fun e' w'=>∃v,e'=.returned v∧Res W η' c (Is3 d rd e) v w')
structure yq{R:Type}(P:Program)(X:Tx)(T:R→Prop)(O:Orc R):Prop where
 pu:∀f l k,T (O.pu f l k)→∃x:F×Bool,Pure P X.Γ f l x.1 x.2∧T (k x)
 he:∀t η f l k,T (O.he t η f l k)→∃d rd e,fj P X.Γ η f l d rd e∧T (k d rd e)
def GD2(P:Program)(X:Tx):CG:=fun t η f l k=>((X.bd f=0∧GDr P X.Γ η f l k)∨(∃kd,X.bd f=kd+1∧∃d rd e,bdX X.E (X.bt f) X.u8 (kd+1) t η l=some (d,rd,e)∧k d rd e))∨(∃d rd e,fj P X.Γ η f l d rd e∧k d rd e)
theorem Res.to{W:Bs}{η:Env}{c:Cf}{k:Ks}{d:D}{rd:List Nat}{e:List (Nat×B)}{v:Value}{w:World}(h:Res W η c (Is3 d rd e) v w)(hk:k d rd e):Res W η c k v w:=by
 obtain⟨d',rd',e',c',O',⟨rfl,rfl,rfl⟩,h2⟩:=h;exact⟨_,_,_,c',O',hk,h2⟩
theorem EG{P:Program}{X:Tx}(hX:mA P X):mu P X.Γ (GD2 P X):=by
 rintro t η f l k ((⟨_,h⟩|⟨kd,h1,d,rd,e,h2,hk⟩)|⟨d,rd,e,h2,hk⟩) W c O w vs g1 g2 g3 g4
 ·exact wI t η f l k h W c O w vs g1 g2 g3 g4
 ·obtain⟨q1,q2⟩:=hX.bd f kd h1 t η l d rd e h2 W c O w vs g2 g3 g4;exact⟨q1,q2.mono fun e w' ⟨v,h3,h4⟩=>⟨v,h3,Res.to h4 hk⟩⟩
 ·obtain⟨q1,q2⟩:=h2.go η (fun _ _=>rfl) W c O w vs g1 g2 g3 g4;exact⟨q1,q2.mono fun e w' ⟨v,h3,h4⟩=>⟨v,h3,Res.to h4 hk⟩⟩
theorem Cy{P:Program}{X:Tx}:xk (GD2 P X):=by
 rintro t η f l k ((⟨h0,h⟩|⟨kd,h1,d,rd,e,h2,hk⟩)|⟨d,rd,e,h2,hk⟩)
 ·obtain⟨d,rd,e,q1,q2⟩:=C2 t η f l k h;exact⟨d,rd,e,q1,fun η' hη=>.inl (.inl ⟨h0,q2 η' hη⟩)⟩
 ·exact⟨d,rd,e,hk,fun η' hη=>.inl (.inr ⟨kd,h1,d,rd,e,EI h2 hη,rfl,rfl,rfl⟩)⟩
 ·exact⟨d,rd,e,hk,fun η' hη=>.inr ⟨d,rd,e,⟨fun η2 h3=>h2.go η2 (fun b hb=>(h3 b hb).trans (hη b hb))⟩,rfl,rfl,rfl⟩⟩
section
variable {P:Program} {f:Nat} {ro:Option Nat} {a:Act} {k:List Item} {cs:List Frame} {w:World} {ops:Array Oper}
theorem m8{ρ:Operand→Value}{o:Oper}{w w':World}{x:Next}(hr:(execOp ρ o).run P w=.ok x w')(hx:∀d,x≠.defer d):∀c,o.op≠.defer c:=by
 intro c e
 cases h:(resolve ρ c o.type).run P w<;>simp[execOp,e,h] at hr
 exact hx _ hr.1.symm
theorem jb{i:Nat}{rest:List Nat}{o:Oper}(ho:ops[i]?=some o)(v:Value):((bF f ro).atR a (.inRegion ops (i :: rest) :: k)).finish v=(bF f ro).atR (a.put o.dst v) (.inRegion ops rest :: k):=by
 rw[Frame.finish_atR,ho];rfl
theorem tX{i:Nat}{rest:List Nat}{o:Oper}{w':World}{v:Value}(ho:ops[i]?=some o)(hw:Region.wanted o (yielded ops a.tmps)=true)(hr:(execOp a.eval o).run P w=.ok (.value v) w') :
  step P (lone ((bF f ro).atR a (.inRegion ops (i :: rest) :: k)) cs w)=.next (lone ((bF f ro).atR (a.put o.dst v) (.inRegion ops rest :: k)) cs w'):=by
 have hg:=stepGR_op (P:=P) (b:=bF f ro) (k:=k) (cs:=cs) (w:=w) (rest:=rest) ho hw;rw[Oper.semAt_eq _ _ _ (m8 hr (by simp))] at hg;refine step_lone_go ?_;rw[hg,←jb ho];simp[stepG.apply,hr]
theorem vy{i:Nat}{rest:List Nat}{o:Oper}{w':World}(ho:ops[i]?=some o)(hw:Region.wanted o (yielded ops a.tmps)=true)(hr:(execOp a.eval o).run P w=.ok .skip w') :
  step P (lone ((bF f ro).atR a (.inRegion ops (i :: rest) :: k)) cs w)=.next (lone ((bF f ro).atR (a.put o.dst undef) (.inRegion ops rest :: k)) cs w'):=by
 have hg:=stepGR_op (P:=P) (b:=bF f ro) (k:=k) (cs:=cs) (w:=w) (rest:=rest) ho hw;rw[Oper.semAt_eq _ _ _ (m8 hr (by simp))] at hg;refine step_lone_go ?_;rw[hg,←jb ho];simp[stepG.apply,hr]
theorem jw{i:Nat}{rest:List Nat}{o:Oper}{w':World}{g:FuncId}{args:Array Value}(ho:ops[i]?=some o)(hw:Region.wanted o (yielded ops a.tmps)=true)(hr:(execOp a.eval o).run P w=.ok (.enter g args) w') :
  step P (lone ((bF f ro).atR a (.inRegion ops (i :: rest) :: k)) cs w)=.next (lone (Frame.enter P g args .normal) ((bF f ro).atR a (.inRegion ops (i :: rest) :: k) :: cs) w'):=by
 have hg:=stepGR_op (P:=P) (b:=bF f ro) (k:=k) (cs:=cs) (w:=w) (rest:=rest) ho hw;rw[Oper.semAt_eq _ _ _ (m8 hr (by simp))] at hg;refine step_lone_go ?_;rw[hg];simp[stepG.apply,hr,Frame.atR]
theorem Cj{i:Nat}{rest:List Nat}{o:Oper}{w':World}{l g:Nat}{tmps:Array Value}{asg body:Code}(ho:ops[i]?=some o)(hw:Region.wanted o (yielded ops a.tmps)=true)(hr:(execOp a.eval o).run P w=.ok (.round l g tmps asg body) w') :
  step P (lone ((bF f ro).atR a (.inRegion ops (i :: rest) :: k)) cs w)=.next (lone ((bF g (some l)).atR ⟨tmps,[]⟩ [.code asg,.beginRound,.code body]) ((bF f ro).atR a (.inRegion ops (i :: rest) :: k) :: cs) w'):=by
 have hg:=stepGR_op (P:=P) (b:=bF f ro) (k:=k) (cs:=cs) (w:=w) (rest:=rest) ho hw;rw[Oper.semAt_eq _ _ _ (m8 hr (by simp))] at hg;refine step_lone_go ?_;rw[hg];simp[stepG.apply,hr,Frame.atR,Frame.round,bF]
theorem tl{g:FuncId}{args:Array Value}{fn:Func}{cd:Code}(hf:P.funcs[g]?=some fn)(hb:fn.body=some cd) :
  Frame.enter P g args .normal=(bF g none).atR { tmps:=args++Array.replicate (fn.ntmps - args.size) undef,defers:=[] } [.code cd]:=by
 simp[Frame.enter,Frame.atR,hf,hb,bF]
theorem Bv{i:Nat}{rest:List Nat}{o:Oper}{F:Value→World→Prop}(ho:ops[i]?=some o)(hw:Region.wanted o (yielded ops a.tmps)=true)(hL:az P o a w F) :
  ∃v w',F v w'∧Steps P (lone ((bF f ro).atR a (.inRegion ops (i :: rest) :: k)) cs w) (lone ((bF f ro).atR (a.put o.dst v) (.inRegion ops rest :: k)) cs w'):=by
 unfold az at hL
 split at hL
 ·rename_i v w' hr;exact⟨v,w',hL,.one (tX ho hw hr)⟩
 ·rename_i w' hr;exact⟨undef,w',hL,.one (vy ho hw hr)⟩
 ·rename_i g args w' hr;obtain⟨e,w2,fr',⟨v,rfl,hF⟩,hc,hfn,hl⟩:=hL ((bF f ro).atR a (.inRegion ops (i :: rest) :: k) :: cs);refine⟨v,w2,hF,.head (jw ho hw hr) (Steps.trans hc (.one ?_))⟩;rw[step_leave_returned hl,jb ho]
 ·exact hL.elim
theorem uG{N:Act→World→Prop}{Q:Exit→Act→World→Prop}(hnd:∀(i:Nat) (o:Oper),ops[i]?=some o→∀c,o.op≠.defer c)(hQ:∀e a w,Q e a w→e=.normal∧N a w):∀(l:List Nat) (a:Act) (w:World),wpOps P ops Q l a w→
  ∃a' w',N a' w'∧Steps P (lone ((bF f ro).atR a (.inRegion ops l :: k)) cs w) (lone ((bF f ro).atR a' k) cs w')
 | [],a,w,h=>⟨a,w,(hQ _ _ _ h).2,.one stepR_region_end⟩
 | i :: rest,a,w,h=>by
  have ih:=uG hnd hQ rest;simp only[wpOps] at h
  cases ho:ops[i]? with
  | none=>
   simp only[ho] at h;obtain⟨a',w',h1,h2⟩:=ih a w h;have hs:=stepR_op_skip (P:=P) (b:=bF f ro) (a:=a) (k:=k) (cs:=cs) (w:=w) (ops:=ops) (i:=i) (rest:=rest) (by simp[ho]);simp only[ho,Option.bind_none,Act.put] at hs;exact⟨a',w',h1,.head hs h2⟩
  | some o=>
   simp only[ho] at h
   by_cases hw:Region.wanted o (yielded ops a.tmps)=true
   ·simp only[hw,if_true] at h;rcases h with h|⟨_,a0,w0,hq⟩
    ·simp only[Oper.wp,Oper.upon] at h
     split at h
     ·rename_i v w' hr;obtain⟨a',w2,h1,h2⟩:=ih _ _ h;exact⟨a',w2,h1,.head (tX ho hw hr) h2⟩
     ·rename_i w' hr;obtain⟨a',w2,h1,h2⟩:=ih _ _ h;exact⟨a',w2,h1,.head (vy ho hw hr) h2⟩
     ·rename_i d w' hr;obtain⟨a',w2,h1,h2⟩:=ih _ _ h;refine⟨a',w2,h1,.head (step_lone_go ?_) h2⟩;have hg:=stepGR_op (P:=P) (b:=bF f ro) (k:=k) (cs:=cs) (w:=w) (rest:=rest) ho hw;rw[Oper.semAt_eq _ _ _ (hnd i o ho)] at hg;rw[hg]
      cases hdst:o.dst<;>simp[stepG.apply,hr,Frame.finish,Frame.atR,ho,Act.put,hdst]
     ·rename_i g args w' hr;obtain⟨e,w2,fr',he,hc,hfn,hl⟩:=h ((bF f ro).atR a (.inRegion ops (i :: rest) :: k) :: cs)
      cases e with
      | returned v=>
       obtain⟨a',w3,h1,h2⟩:=ih _ _ he;refine⟨a',w3,h1,.head (jw ho hw hr) (Steps.trans hc (.head ?_ h2))⟩;rw[step_leave_returned hl,jb ho]
      | panicked chain=>exact absurd (hQ _ _ _ he).1 (by intro h;cases h)
      | outgrown=>obtain⟨a0,w0,hq⟩:=he;exact absurd (hQ _ _ _ hq).1 (by intro h;cases h)
     ·rename_i row args w' hr;obtain⟨v,w2,he,hc⟩:=h ((bF f ro).atR a (.inRegion ops (i :: rest) :: k)) cs;obtain⟨a',w3,h1,h2⟩:=ih _ _ he;refine⟨a',w3,h1,.head (step_lone_go ?_) (Steps.trans hc (by rw[jb ho];exact h2))⟩;have hg:=stepGR_op (P:=P) (b:=bF f ro) (k:=k) (cs:=cs) (w:=w) (rest:=rest) ho hw;rw[Oper.semAt_eq _ _ _ (hnd i o ho)] at hg;rw[hg];simp[stepG.apply,hr,Frame.atR]
     ·rename_i v w' hr;exact absurd (hQ _ _ _ h).1 (by intro h;cases h)
     ·exact h.elim
    ·exact absurd (hQ _ _ _ hq).1 (by intro h;cases h)
   ·have hw':Region.wanted o (yielded ops a.tmps)=false:=by simpa using hw
    simp only[hw',OQ,if_false] at h;obtain⟨a',w',h1,h2⟩:=ih _ _ h;have hs:=stepR_op_skip (P:=P) (b:=bF f ro) (a:=a) (k:=k) (cs:=cs) (w:=w) (ops:=ops) (i:=i) (rest:=rest) (by simp[ho,hw']);simp only[ho,QR] at hs;exact⟨a',w',h1,.head hs h2⟩
end
end Go.Km
end
section
namespace Go.Vc
open Go Go.RowKit Go.Km
open Go.Sl hiding lk
section
variable {c:Cf} {N:Nat} {s:List (Nat×D)}
theorem bN.sl{a:Act}(h:bN c N s a.tmps):mE c ⟨N,a.defers⟩ s a:=⟨h.size,rfl,h.get⟩
theorem bN.put{a:Act}(h:bN c N s a.tmps){dst:Option Nat}(hd:dOk N dst=true){d:D}{v:Value}(hv:D.rep c d v):bN c N (nD s dst d) (a.put dst v).tmps:=by
 cases dst with
 | none=>exact h
 | some t=>
  have:=(h.sl).put (t:=t) (by exact hd) hv;exact⟨this.size,this.get⟩
theorem bN.Mn{tmps:Array Value}(h:bN c N s tmps){j:Nat}{x:Value}(hj:lk s j=some (.fr (.vl x))):bN c N ((j,.fr (.vl x)) :: s) tmps:=by
 refine⟨h.size,fun k d hk=>?_⟩;rw[cB] at hk
 by_cases e:j=k
 ·subst e;rw[bY] at hk
  cases hk;exact h.get _ _ hj
 ·rw[aK e] at hk;exact h.get k d hk
end
end Go.Vc
namespace Go.Km
open Go Go.RowKit Go.Vc
open Go.Sl hiding lk
section
variable {c:Cf} {N:Nat} {s:List (Nat×D)}
theorem Dp:∀(l:List D) (i j:Nat) (d:D),lk (pP i l) j=some d→i≤j∧l[j - i]?=some d
 | [],_,_,_,h=>by simp[pP,lk] at h
 | x :: l,i,j,d,h=>by
  simp only[pP,lk] at h
  cases hb:Nat.beq i j with
  | true=>
   rw[hb] at h;simp at h;have:i=j:=Nat.eq_of_beq_eq_true hb;subst this;simp[h]
  | false=>
   rw[hb] at h;obtain⟨h1,h2⟩:=Dp l (i+1) j d h;refine⟨by omega,?_⟩;rw[show j - i=(j - (i+1))+1 by omega];simpa using h2
theorem nZ{l:List D}{vs:List Value}(hvs:D.aq c l vs)(hN:Nat.ble l.length N=true):bN c N (pP 0 l) (vs.toArray++Array.replicate (N - vs.toArray.size) undef):=by
 have hlen:=D.bl hvs;have hle:=On hN;refine⟨by simp;omega,fun k d hk=>?_⟩;obtain⟨_,h2⟩:=Dp l 0 k d hk;obtain⟨u,hu,hx⟩:=D.cQ hvs h2;simp only[O9] at hu;have hlt:=(Ox.1 hu).1;have e:(vs.toArray++Array.replicate (N - vs.toArray.size) undef).getD k undef=u:=by
  simp only[Array.getD_eq_getD_getElem?,Array.getElem?_append,Ra,Q6,hlt,if_true,hu,PK]
 rw[e];exact hx
theorem tN:∀{ps:List Nat} {ds:List D} {vs:List Value} {s:List (Nat×D)} {tmps:Array Value},bN c N s tmps→D.aq c ds vs→ds.length=ps.length→(∀p∈ps,p<N)→
  bN c N (E0 ps ds s) ((ps.zip vs).foldl (fun t (p:Nat×Value)=>t.setIfInBounds p.1 p.2) tmps)
 | [],ds,vs,s,tmps,hs,hd,hl,hp=>by simpa [E0] using hs
 | p :: ps,[],vs,s,tmps,hs,hd,hl,hp=>by simp at hl
 | p :: ps,d :: ds,vs,s,tmps,hs,hd,hl,hp=>by
  unfold D.aq at hd;obtain⟨u,us,rfl,hu,hus⟩:=hd;simp only[E0,List.zip_cons_cons,PJ];refine tN (s:=(p,d) :: s) ?_ hus (by simpa using hl) (fun q hq=>hp q (by simp[hq]));have:=bN.put (a:=⟨tmps,[]⟩) hs (dst:=some p) (d:=d) (v:=u) (by simp only[dOk];exact Nat.blt_eq.mpr (hp p (by simp))) hu;exact this
end
variable {P:Program} {X:Tx} (hX:mA P X) {W:Bs} {cs0:List Frame} {f0:Nat} {r:xN} (hΓ:GOk X.Γ W.c)
variable {R:Type} {al:Al R} {T:R→Prop} (hb:u7 al T) {K:Cfg→R} (hK:∀g,T (K g)→Snd P W cs0 f0 r g)
section
variable {c:Cf} {Ow:Nat→Nat→Prop} {w:World} {f N nx:Nat} {s:List (Nat×D)} {k:List KI} {ds:List (Nat×Nat)} {gro:Option (Nat×Nat)} {gcs:List Fm} {gh:List (Nat×B)}
 {a:Act} {todo:List Item} {ro:Option Nat} {frs:List Frame}
include hK in
theorem nI{g':Cfg}{m:Machine}{c':Cf}{O':Nat→Nat→Prop}{fr':Frame}{frs':List Frame}{w':World}(h:T (K g'))(hs:Steps P m (lone fr' (frs'++cs0) w'))(hr:Rl W f0 g' c' O' fr' frs' w'):jJ P W cs0 f0 r m:=
 jJ.of_steps hs (hK g' h _ _ _ _ _ hr)
theorem eW{f N N':Nat}{s s':List (Nat×D)}{k k':List KI}{ds ds':List (Nat×Nat)}{ro ro':Option (Nat×Nat)}{gcs:List Fm}:fS ⟨f,N,s,k,ds,ro⟩ gcs=fS ⟨f,N',s',k',ds',ro'⟩ gcs:=by
 cases gcs<;>rfl
include hK in
theorem pV {k':List KI} {todo':List Item} (h:T (K ⟨⟨f,N,s,k',ds,gro⟩,gcs,gh,nx⟩))
  (hs:bN c N s a.tmps) (hm:bQ c ds a.defers) (hro:lg c gro ro) (hcs:Fms c gcs frs) (hp:Hp c Ow (lk gh) w) (hold:Old W c Ow w) (hbot:fS ⟨f,N,s,k,ds,gro⟩ gcs=f0)
  (hk':KIs c k' todo') (hst:step P (lone ((bF f ro).atR a todo) (frs++cs0) w)=.next (lone ((bF f ro).atR a todo') (frs++cs0) w)):jJ P W cs0 f0 r (lone ((bF f ro).atR a todo) (frs++cs0) w):=
 nI hK h (.one hst) ⟨⟨a,todo',ro,rfl,hs,hk',hm,hro⟩,hcs,hp,hold,by rw[←hbot];exact eW⟩
theorem yB{ops:Array Oper}{o:Oper}{l:List Oper}{it:Item}(h:(KI.reg ops (o :: l)).ok c it):∃i il,it=.inRegion ops (i :: il)∧ops[i]?=some o∧(KI.reg ops l).ok c (.inRegion ops il):=by
 obtain⟨il,rfl,h⟩:=h
 cases il with
 | nil=>simp at h
 | cons i il=>
  simp only[OB,Qd] at h;exact⟨i,il,rfl,h.1,il,rfl,h.2⟩
theorem JF(ops:Array Oper):(KI.reg ops ops.toList).ok c (.inRegion ops (List.range ops.size)):=by
 refine⟨_,rfl,?_⟩;apply Qc;intro j
 by_cases hj:j<ops.size
 ·simp[hj,QV hj]
 ·rw[OG (by simpa using hj),OG (by simpa using hj)]
include hΓ in
theorem gok(hold:Old W c Ow w):GOk X.Γ c:=hΓ.ext hold.le
include hK in
theorem Hm {o:Oper} {ops:Array Oper} {l:List Oper} {i:Nat} {il:List Nat} {t':List Item} (hd:dOk N o.dst=true)
  (hs:bN c N s a.tmps) (hm:bQ c ds a.defers) (hro:lg c gro ro) (hcs:Fms c gcs frs) (hp:Hp c Ow (lk gh) w) (hold:Old W c Ow w) (hbot:fS ⟨f,N,s,k,ds,gro⟩ gcs=f0)
  (ho:ops[i]?=some o) (hil:(KI.reg ops l).ok c (.inRegion ops il)) (hk:KIs c k t') (hw:Region.wanted o (yielded ops a.tmps)=true)
  (hL:az P o a w (Res W (lk gh) c fun d rd e=>T (K ⟨⟨f,N,nD s o.dst d,.reg ops l :: k,ds,gro⟩,gcs,e++gh,nx+1⟩))) :
  jJ P W cs0 f0 r (lone ((bF f ro).atR a (.inRegion ops (i :: il) :: t')) (frs++cs0) w):=by
 obtain⟨v,w',⟨d,rd,e,c',O',h1,h2,h3,h4,h5⟩,hst⟩:=Bv (ro:=ro) (k:=t') (cs:=frs++cs0) (rest:=il) (f:=f) ho hw hL;refine nI hK h1 hst ⟨⟨a.put o.dst v,_,ro,rfl,(hs.le h2).put hd h3,⟨_,t',rfl,hil.le h2,hk.le h2⟩,?_,hro.le h2⟩,hcs.le h2,by rw[BT];exact h4,h5,by rw[←hbot];exact eW⟩;have:(a.put o.dst v).defers=a.defers:=by cases o.dst<;>rfl
 rw[this];exact hm.le h2
include hK hX hb in
theorem pn {g:FuncId} {l:List D} {vs:List Value} {m:Machine} {fr1:Frame} {fm1:Fm} {frs1:List Frame} {gcs1:List Fm} (h:T (gz al X K g l (fm1 :: gcs1) gh nx))
  (hvs:D.aq c l vs) (hfm:tB c fm1 fr1) (hcs:Fms c gcs1 frs1) (hp:Hp c Ow (lk gh) w) (hold:Old W c Ow w) (hbot:fS fm1 gcs1=f0)
  (hst:CF P g→Steps P m (lone (Frame.enter P g vs.toArray .normal) (fr1 :: (frs1++cs0)) w)):jJ P W cs0 f0 r m:=by
 unfold gz at h
 split at h
 ·rename_i fi hfi;obtain⟨h1,h⟩:=aE hb h;obtain⟨hcf,fn,hfn,hbd,hN,hrs⟩:=hX.fi _ _ hfi;have hs:=hst hcf;rw[tl hfn hbd,hN] at hs;exact nI hK (frs':=fr1 :: frs1) h hs ⟨⟨_,[.code fi.body],none,rfl,nZ hvs h1,⟨_,_,rfl,rfl,rfl⟩,rfl,rfl⟩,⟨fr1,frs1,rfl,hfm,hcs⟩,hp,hold,hbot⟩
 ·exact(hb.bot h).elim
end
end Go.Km
end
section
namespace Go.Km
open Go Go.RowKit Go.Vc
open Go.Sl hiding lk
section
variable {P:Program} {X:Tx} (hX:mA P X) {W:Bs} {cs0:List Frame} {f0:Nat} {r:xN} (hΓ:GOk X.Γ W.c)
variable {R:Type} {al:Al R} {T:R→Prop} (hb:u7 al T) {K:Cfg→R} (hK:∀g,T (K g)→Snd P W cs0 f0 r g)
 {O:Orc R} (hO:yq P X T O) {fin:D→List (Nat×B)→R} (hfin:∀d h,T (fin d h)→r d h)
section
variable {c:Cf} {Ow:Nat→Nat→Prop} {w:World} {f N nx:Nat} {s:List (Nat×D)} {k:List KI} {ds:List (Nat×Nat)} {gro:Option (Nat×Nat)} {gcs:List Fm} {gh:List (Nat×B)}
 {a:Act} {todo:List Item} {ro:Option Nat} {frs:List Frame}
include hX hb hO in
theorem qM{t:Nat}{η:Env}{g:FuncId}{l:List D}{k:Kr R}(h:T (lS al X O false t η g l k)):rS P X.Γ η g l (fun d rd e=>T (k d rd e)):=by
 unfold lS at h
 split at h
 ·obtain⟨d,rd,e,h2,hk⟩:=hO.he _ _ _ _ _ h;exact⟨fun W c O w vs g1 g2 g3 g4=>(h2.go η (fun _ _=>rfl) W c O w vs g1 g2 g3 g4).imp id fun q=>q.mono fun e w' ⟨v,h3,h4⟩=>⟨v,h3,Res.to h4 hk⟩⟩
 split at h
 ·rename_i kd hbd
  split at h
  ·rename_i d rd e he;refine⟨fun W c O w vs g1 g2 g3 g4=>?_⟩;obtain⟨q1,q2⟩:=hX.bd g kd hbd t η l d rd e he W c O w vs g2 g3 g4;exact⟨q1,q2.mono fun e w' ⟨v,h3,h4⟩=>⟨v,h3,Res.to h4 h⟩⟩
  ·exact(hb.bot h).elim
 ·split at h
  ·rename_i fl is hm;obtain⟨x,hp,h⟩:=hO.pu _ _ _ h
   cases hf:(x.1.flat||x.2) with
   | true=>rw[hf] at h;exact rS.look hm hp (by simpa using hf) h
   | false=>rw[hf] at h;exact rS.rh hm hp h
  ·exact(hb.bot h).elim
include hb hO in
theorem Hb{t:Nat}{η:Env}{g:FuncId}{l:List D}{k:Kr R}(h:T (lS al X O true t η g l k)):GD2 P X t η g l (fun d rd e=>T (k d rd e)):=by
 unfold lS at h
 split at h
 ·exact .inr (hO.he _ _ _ _ _ h)
 refine .inl ?_
 split at h
 ·rename_i kd hbd
  split at h
  ·rename_i d rd e he;exact .inr ⟨kd,hbd,d,rd,e,he,h⟩
  ·exact(hb.bot h).elim
 rename_i hbd;refine .inl ⟨hbd,?_⟩
 split at h
 ·rename_i fl is hm;obtain⟨x,hp,h⟩:=hO.pu _ _ _ h
  cases hf:(x.1.flat||x.2) with
  | true=>rw[hf] at h;exact GDr.rh hm hp (.inr (by simpa using hf)) h
  | false=>
   rw[hf] at h
   cases is with
   | nil=>exact GDr.rh hm hp (.inl rfl) h
   | cons i is=>exact(hb.bot h).elim
 ·exact(hb.bot h).elim
theorem mY(hs:bN c N s a.tmps)(hg:GOk X.Γ c){args:Array Operand}{l:List D}(hl:kN (args.toList.map (evD X.Γ s))=some l):D.aq c l (args.map a.eval).toList:=by
 have:=lG (a:=a) (c:=c) (fun x d hx=>m7 (hs.sl) hg hx) hl;simpa using this
include hX hΓ hb hK hO in
theorem yy {o:Oper} {ops:Array Oper} {l:List Oper} {i:Nat} {il:List Nat} {t':List Item} {k0:List KI} (h:T (vU al X O K ⟨⟨f,N,s,k0,ds,gro⟩,gcs,gh,nx⟩ o ops l k))
  (hs:bN c N s a.tmps) (hm:bQ c ds a.defers) (hro:lg c gro ro) (hcs:Fms c gcs frs) (hp:Hp c Ow (lk gh) w) (hold:Old W c Ow w) (hbot:fS ⟨f,N,s,k,ds,gro⟩ gcs=f0)
  (ho:ops[i]?=some o) (hil:(KI.reg ops l).ok c (.inRegion ops il)) (hk:KIs c k t') (hw:Region.wanted o (yielded ops a.tmps)=true) :
  jJ P W cs0 f0 r (lone ((bF f ro).atR a (.inRegion ops (i :: il) :: t')) (frs++cs0) w):=by
 have hg:GOk X.Γ c:=gok hΓ hold;have hρ:∀x d,evD X.Γ s x=some d→D.rep c d (a.eval x):=fun x d hx=>m7 hs.sl hg hx
 simp only[vU] at h;obtain⟨hd,h⟩:=aE hb h;have hil0:(KI.reg ops (o :: l)).ok c (.inRegion ops (i :: il)):=by
  obtain⟨il',e,h1⟩:=hil
  cases e;exact⟨_,rfl,by simp[ho,h1]⟩
 have hfm:tB c ⟨f,N,s,.reg ops (o :: l) :: k,ds,gro⟩ ((bF f ro).atR a (.inRegion ops (i :: il) :: t')):=
  ⟨a,_,ro,rfl,hs,⟨_,t',rfl,hil0,hk⟩,hm,hro⟩
 have hbot':fS ⟨f,N,s,.reg ops (o :: l) :: k,ds,gro⟩ gcs=f0:=by rw[←hbot];exact eW
 split at h
 ·rename_i x args tys hop;have viaG:∀{g:FuncId} {l1:List D},Vc.wpOp X.E (lk gh) nx (fun _=>rS P X.Γ) (evD X.Γ s) o.op (fun d rd e=>T (K ⟨⟨f,N,nD s o.dst d,.reg ops l :: k,ds,gro⟩,gcs,e++gh,nx+1⟩))→
    jJ P W cs0 f0 r (lone ((bF f ro).atR a (.inRegion ops (i :: il) :: t')) (frs++cs0) w):=fun h=>
   Hm hK hd hs hm hro hcs hp hold hbot ho hil hk hw (J2 (n:=⟨N,a.defers⟩) hX.deep Bg hg hs.sl hX.E hp hold h)
  split at h
  ·rename_i g cs1 l1 hx hl;have hfv:=hρ x _ hx;unfold D.rep at hfv;obtain⟨vs,hfe,hvs⟩:=hfv;have hl1:=mY hs hg hl;generalize hpu:(X.hp g||Nat.blt 0 (X.bd g)||(X.pu g && !jg _))=q at h
   cases q with
   | true=>
    refine viaG (g:=g) (l1:=l1) ?_;rw[hop];simp only[Vc.wpOp,fu,hx,hl];exact qM hX hb hO h
   | false=>
    refine pn hX hb hK (vs:=(args.map a.eval).toList++vs) h (D.bZ hl1 hvs) hfm hcs hp hold hbot' fun hcf=>.one ?_;have:=hcf.run (args.map a.eval++vs.toArray) w;refine jw ho hw ?_;simp[execOp,hop,resolve,Deferred.ofValue,hfe,invoke,this,←Array.toList_map]
  ·rename_i g cs1 l1 hx hl;have hfv:=hρ x _ hx;unfold D.rep F.rep at hfv;obtain⟨vs,hfe,hvs⟩:=hfv;have hl1:=mY hs hg hl;generalize hpu:(X.hp g||Nat.blt 0 (X.bd g)||(X.pu g && !jg _))=q at h
   cases q with
   | true=>
    refine viaG (g:=g) (l1:=l1) ?_;rw[hop];simp only[Vc.wpOp,fu,hx,hl];exact qM hX hb hO h
   | false=>
    refine pn hX hb hK (vs:=(args.map a.eval).toList++vs) h (D.bZ hl1 (kk hvs)) hfm hcs hp hold hbot' fun hcf=>.one ?_;have:=hcf.run (args.map a.eval++vs.toArray) w;refine jw ho hw ?_;simp[execOp,hop,resolve,Deferred.ofValue,hfe,invoke,this,←Array.toList_map]
  ·rename_i g fs1 cs1 l1 hx hl;have hfv:=hρ x _ hx;unfold D.rep at hfv;obtain⟨us,vs,hfe,hus,hvs⟩:=hfv;have hl1:=mY hs hg hl;have hall:=D.bZ (D.bZ hus hl1) hvs;have hent:CF P g→(execOp a.eval o).run P w=.ok (.enter g (us++(args.map a.eval).toList++vs).toArray) w:=fun hcf=>by
    have:=hcf.run ((us.toArray++args.map a.eval)++vs.toArray) w;have e:(us++(args.map a.eval).toList++vs).toArray=(us.toArray++args.map a.eval)++vs.toArray:=by
     apply QC;simp
    rw[e];rw[Array.append_assoc] at this ⊢;simp[execOp,hop,resolve,Deferred.ofValue,hfe,invoke,this]
   generalize hpu:(X.hp g||Nat.blt 0 (X.bd g)||(X.pu g && !jg _))=q at h
   cases q with
   | true=>
    obtain⟨hcf,hcall⟩:=(qM hX hb hO h).go W c Ow w _ hg hp hold hall;exact Hm hK hd hs hm hro hcs hp hold hbot ho hil hk hw (az.xx (hent hcf) hcall)
   | false=>exact pn hX hb hK (vs:=us++(args.map a.eval).toList++vs) h hall hfm hcs hp hold hbot' fun hcf=>.one (jw ho hw (hent hcf))
  ·rename_i b v l1 hx hl;have hfv:=hρ x _ hx;unfold D.rep at hfv;obtain⟨g,hgι,hfe⟩:=hfv;have hl1:=mY hs hg hl
   split at h
   ·rename_i v' L hlp;obtain⟨h1,hx1⟩:=aE hb h;clear h;simp only[Oi] at h1;obtain⟨⟨h1,h2⟩,h3⟩:=h1;have h1:=Nat.eq_of_beq_eq_true h1;have h2:=Nat.eq_of_beq_eq_true h2;subst h1;rw[OF] at h3;obtain⟨g',L',gd,e1,e2,e3,e4,e5,e6,e7,e8,e9,e10,e11,e12⟩:=hp.pc b _ hlp;rw[hgι] at e1
    cases e1;have hsz:(args.map a.eval).size=L'.params.size:=by
     rw[e7];have:=D.bl hl1;simp at this ⊢;omega
    have hy:=run_yield (P:=P) (w:=w) e3 hsz;have hst:step P (lone ((bF f ro).atR a (.inRegion ops (i :: il) :: t')) (frs++cs0) w)=_:=Cj (cs:=frs++cs0) (k:=t') (f:=f) (ro:=ro) (rest:=il) ho hw (by simp[execOp,hop,resolve,Deferred.ofValue,hfe,invoke];exact hy);rw[e6,e8,e9] at hst;refine nI hK (frs':=_ :: frs) hx1 (.one hst) ⟨⟨⟨_,[]⟩,[.code L.asg,.beginRound,.code L.body],some g,rfl,?_,⟨_,_,rfl,rfl,_,_,rfl,rfl,_,_,rfl,rfl,rfl⟩,rfl,g,rfl,hgι⟩,⟨_,frs,rfl,hfm,hcs⟩,hp,hold,hbot'⟩;have hz:=tN (N:=L.N) (ps:=L.ps) e10 hl1 (by rw[h2]) (fun p hp=>cF (h3 p hp));simp only[e7];have e:∀(ps:List Nat) (vs:List Value) (t:Array Value),Array.foldl (fun tmps (x:Tmp×Value)=>tmps.setIfInBounds x.1 x.2) t (ps.toArray.zip vs.toArray)=(ps.zip vs).foldl (fun t (p:Nat×Value)=>t.setIfInBounds p.1 p.2) t:=by
     intro ps vs t;rw[←Array.foldl_toList,Array.toList_zip]
    have e':=e L.ps (args.map a.eval).toList L'.tmps;simp only[Array.toArray_toList] at e';show bN c L.N _ (Array.foldl (fun tmps (x:Tmp×Value)=>tmps.setIfInBounds x.1 x.2) L'.tmps (L.ps.toArray.zip (args.map a.eval)))
    rw[e'];exact hz
   ·exact(hb.bot h).elim
  ·exact(hb.bot h).elim
 ·refine Hm (nx:=nx) hK hd hs hm hro hcs hp hold hbot ho hil hk hw (FK (G:=fun _ _ _ _ _=>False) (n:=⟨N,a.defers⟩) (t:=nx) hX.Q hX.deep (fun _ _ _ _ _ h=>h.elim) hg hs.sl hX.E hp hold ?_);exact Kb hb (fun _ _ _ _ _ h=>(hb.bot h).elim) h
end
end
section
variable {P:Program} {c:Cf} {w:World} {Ow:Nat→Nat→Prop} {W:Bs}
theorem xW {h:List (Nat×B)} {b g:Nat} {o o':Obj} {x x':B} (hp:Hp c Ow (lk h) w) (hold:Old W c Ow w) (hx:lk h b=some x) (hv:x'.ver=x.ver) (hS:Ow b g) (hw:w.heap[g]?=some o)
  (hx':∀w',w'.heap[g]?=some o'→x'.on c b (Ow b) w'):∃O',Hp c O' (lk ((b,x') :: h)) (w.putObj g o')∧Old W c O' (w.putObj g o'):=by
 have hlt:g<w.heap.size:=(OO.1 hw).1;have hc:Chg w (w.putObj g o') (Ow b):=⟨rfl,rfl,rfl,by simp,fun j _ hn=>World.putObj_heap_other (fun e=>hn (by subst e;exact hS))⟩
 refine⟨_,hp.upd hc (fun j hj=>.inl hj) (Cf.le.refl c) rfl rfl (hp.cS hx hv) (hx' _ (World.putObj_heap_same hlt)),hold.upd hc (fun j hj=>.inl hj) rfl rfl⟩
theorem Fj{f:Nat}{tmps:Array Value}{todo:List Item}{g:Nat}{ds:List Deferred}{cs:List Frame}{w':World}(h:(Instr.takeDeferred g).run P w=.ok [] w') :
  step P (lone { (bF f none).atR ⟨tmps,{ target:=.collected g,args:=#[] } :: ds⟩ todo with mode:=.returning } cs w)=.next (lone { (bF f none).atR ⟨tmps,ds⟩ todo with mode:=.returning } cs w'):=
 step_lone_go (by simp[Go.stepG,Go.unwind,Frame.atR,bF,Sem.runT_eq,h,GStep.bare_after])
theorem GH{f:Nat}{tmps:Array Value}{todo:List Item}{cs:List Frame}{h:List (Nat×B)}{b:Nat}{x:B}{ds:List Deferred}(hp:Hp c Ow (lk h) w)(hold:Old W c Ow w)(hb:lk h b=some x){gs:List Nat}(hn:gs.Nodup)(hg:∀g∈gs,Ow b g∧w.heap[g]?=some (.deferred (some []))) :
  ∃w' O',Hp c O' (lk ((b,.gone x.ver) :: h)) w'∧Old W c O' w'∧Steps P (lone { (bF f none).atR ⟨tmps,gs.map (fun g=>{ target:=.collected g,args:=#[] })++ds⟩ todo with mode:=.returning } cs w) (lone { (bF f none).atR ⟨tmps,ds⟩ todo with mode:=.returning } cs w'):=by
 have key:∀(gs:List Nat) (w:World),gs.Nodup→(∀g∈gs,Ow b g∧w.heap[g]?=some (.deferred (some [])))→∃w',Chg w w' (Ow b)∧Steps P (lone { (bF f none).atR ⟨tmps,gs.map (fun g=>{ target:=.collected g,args:=#[] })++ds⟩ todo with mode:=.returning } cs w) (lone { (bF f none).atR ⟨tmps,ds⟩ todo with mode:=.returning } cs w'):=by
  intro gs
  induction gs with
  | nil=>exact fun w _ _=>⟨w,Chg.refl,Steps.refl _ _⟩
  | cons g gs ih=>
   intro w hn hg;obtain⟨h1,h2⟩:=hg g (by simp);have hlt:g<w.heap.size:=(OO.1 h2).1;have hc:Chg w (w.putObj g (.deferred none)) (Ow b):=⟨rfl,rfl,rfl,by simp,fun j _ hn=>World.putObj_heap_other (fun e=>hn (by subst e;exact h1))⟩
   obtain⟨w',k1,k2⟩:=ih (w.putObj g (.deferred none)) (Q0.1 hn).2 fun g' hg'=>⟨(hg g' (by simp[hg'])).1,by
    have hne:g≠g':=fun e=>(Q0.1 hn).1 (by rw[e];exact hg')
    rw[World.putObj_heap_other (Ne.symm hne)];exact(hg g' (by simp[hg'])).2⟩
   exact⟨w',⟨k1.os.trans hc.os,k1.tape.trans hc.tape,k1.output.trans hc.output,OA hc.size k1.size,fun j hj hn=>(k1.block j (OY hj hc.size) hn).trans (hc.block j hj hn)⟩,.head (Fj (run_takeDeferred h2)) k2⟩
 obtain⟨w',hc,hs⟩:=key gs w hn hg;exact⟨w',_,hp.upd hc (fun j hj=>.inl hj) (Cf.le.refl c) rfl rfl (hp.cS hb rfl) (x':=.gone x.ver) (S':=Ow b) trivial,hold.upd hc (fun j hj=>.inl hj) rfl rfl,hs⟩
theorem uR{f:Nat}{tmps:Array Value}{todo:List Item}{cs:List Frame}:∀{l:List (Nat×Nat)} {h h':List (Nat×B)} {ds:List Deferred} {w:World} {Ow:Nat→Nat→Prop},uS l h=some h'→bQ c l ds→Hp c Ow (lk h) w→Old W c Ow w→
  ∃w' O',Hp c O' (lk h') w'∧Old W c O' w'∧Steps P (lone { (bF f none).atR ⟨tmps,ds⟩ todo with mode:=.returning } cs w) (lone { (bF f none).atR ⟨tmps,[]⟩ todo with mode:=.returning } cs w')
 | [],h,h',ds,w,Ow,ht,hm,hp,hold=>by
  have hm:ds=[]:=hm;subst hm;simp[uS] at ht;subst ht;exact⟨w,Ow,hp,hold,Steps.refl _ _⟩
 | (b,v) :: l,h,h',ds,w,Ow,ht,⟨gs,ds',e,hg,hm⟩,hp,hold=>by
  subst e;simp only[uS] at ht
  split at ht
  ·rename_i v' hb
   cases hv:Nat.beq v v' with
   | false=>rw[hv] at ht;cases ht
   | true=>
    rw[hv] at ht;simp only[cond_true] at ht;have:=Nat.eq_of_beq_eq_true hv;subst this;obtain⟨gs',h1,h2,h3⟩:=hp.pc b _ hb;have:=AtM.eq hg h1;subst this;obtain⟨w1,O1,p1,p2,p3⟩:=GH (P:=P) (f:=f) (tmps:=tmps) (todo:=todo) (cs:=cs) (ds:=ds') hp hold hb h2 h3;obtain⟨w2,O2,q1,q2,q3⟩:=uR (f:=f) (tmps:=tmps) (todo:=todo) (cs:=cs) ht hm p1 p2;exact⟨w2,O2,q1,q2,p3.trans q3⟩
  ·cases ht
end
section
variable {c:Cf} {w:World} {O:Nat→Nat→Prop} {η:Env}
theorem ot{Z Z':Nat→Prop}{w w':World}:∀{l:List (List F)} {us:List (List Value)},l.all F.flat.lK=true→F.aI Z w l us→F.aI Z' w' l us
 | [],us,_,h=>by unfold F.aI at h ⊢;exact h
 | x :: l,us,hf,h=>by
  unfold F.aI at h ⊢;simp only[Rm,Oi] at hf;obtain⟨u,us',h1,h2,h3⟩:=h;exact⟨u,us',h1,ko x u hf.1 h2,ot hf.2 h3⟩
theorem FC{p:List F→Bool}{rows:List (List F)}(h:rows.all p=true)(lo hi:Nat):((rows.take hi).drop lo).all p=true:=by
 rw[OF] at h ⊢;exact fun r hr=>h r (OC (OM hr))
theorem wH(hp:Hp c O η w)(ids:List Nat):∀(m:Nat) (d:D) (x:F) (is:List Nat) (u:Value),D.toF η m d=some (x,is)→(∀b∈is,b∈ids)→cY η d=true→D.rep c d u→F.rep (fun g=>∃b,b∈ids∧O b g) w x u
 | 0,d,x,is,u,h,_,_,_=>by simp[D.toF] at h
 | m+1,d,x,is,u,h,hi,hf,hr=>by
  have ih:=wH hp ids m;have many:∀(l:List D) (fl:List F) (is:List Nat) (us:List Value),cX (D.toF η m) l=some (fl,is)→(∀b∈is,b∈ids)→mR η l=true→D.aq c l us→F.aq (fun g=>∃b,b∈ids∧O b g) w fl us:=by
   intro l
   induction l with
   | nil=>
    intro fl is us h1 h2 h3 h4;simp[cX] at h1;unfold D.aq at h4;rw[h1.1,h4];simp[F.aq]
   | cons y l ihl=>
    intro fl is us h1 h2 h3 h4;simp only[cX] at h1;simp only[mR,Oi] at h3;unfold D.aq at h4;obtain⟨u,us',rfl,h5,h6⟩:=h4
    split at h1
    ·rename_i yf i ys is' e1 e2
     cases h1;unfold F.aq;exact⟨u,us',rfl,ih y yf i u e1 (fun b hb=>h2 b (by simp[hb])) h3.1 h5,ihl ys is' us' e2 (fun b hb=>h2 b (by simp[hb])) h3.2 h6⟩
    ·cases h1
  cases d with
  | fr y=>
   simp only[D.toF,PA,Qa] at h;rw[←h.1];unfold D.rep at hr;have hfl:y.flat=true:=by simpa [cY] using hf
   exact F.BP (tF y u hfl hr)
  | ag l=>
   simp only[D.toF] at h
   split at h
   ·rename_i fl is' e1
    cases h;unfold D.rep at hr;obtain⟨vs,rfl,hvs⟩:=hr;unfold F.rep;exact⟨vs,rfl,many l fl is vs e1 hi (by simpa [cY] using hf) hvs⟩
   ·cases h
  | tp l=>
   simp only[D.toF] at h
   split at h
   ·rename_i fl is' e1
    cases h;unfold D.rep at hr;obtain⟨vs,rfl,hvs⟩:=hr;unfold F.rep;exact⟨vs,rfl,many l fl is vs e1 hi (by simpa [cY] using hf) hvs⟩
   ·cases h
  | cl f l=>
   simp only[D.toF] at h
   split at h
   ·rename_i fl is' e1
    cases h;unfold D.rep at hr;obtain⟨vs,rfl,hvs⟩:=hr;unfold F.rep;exact⟨vs,rfl,many l fl is vs e1 hi (by simpa [cY] using hf) hvs⟩
   ·cases h
  | own b v=>
   simp only[D.toF] at h;simp only[cY] at hf
   split at h
   ·rename_i v' e sz rows hb;rw[hb] at hf;simp only at hf
    cases hv:Nat.beq v v' with
    | false=>simp[hv] at h
    | true=>
     simp only[hv,cond_true] at h;have hv':=Nat.eq_of_beq_eq_true hv;subst hv'
     cases h;unfold D.rep at hr;obtain⟨A,m',k',hA,rfl⟩:=hr;obtain⟨A',k2,vr,hA',hvr,hone,hown⟩:=hp.pc b _ hb;rw[hA] at hA'
     cases hA';unfold F.rep;exact⟨A,k',vr,sz,rfl,sn hown,(own.arr hown).mono (fun g hg=>⟨b,hi b (by simp),hg⟩),hone,ot hf hvr⟩
   ·cases h
  | sub b v sz lo hi' ex=>
   simp only[D.toF] at h;simp only[cY] at hf
   split at h
   ·rename_i v' e sz' rows hb;rw[hb] at hf;simp only at hf
    cases hv:(Nat.beq v v'&&Nat.beq sz sz') with
    | false=>simp[hv] at h
    | true=>
     simp only[hv,cond_true] at h;rw[Oi] at hv;have hv':=Nat.eq_of_beq_eq_true hv.1;have hs':=Nat.eq_of_beq_eq_true hv.2;subst hv';subst hs'
     cases h;unfold D.rep at hr;obtain⟨A,m',k',hA,h1,h2,h3,A2,rfl,hA2⟩:=hr;obtain⟨A',k2,vr,hA',hvr,hone,hown⟩:=hp.pc b _ hb;rw[hA] at hA'
     cases hA';have harr:Arr sz (fun g=>∃b,b∈ids∧O b g) w A rows.length vr:=(own.arr hown).mono (fun g hg=>⟨b,hi b (by simp),hg⟩);have harr':=Arr.vn (A':=A2) harr h1 h2 (fun hlt=>hA2 (.inr (by cases ex<;>simp<;>omega)));unfold F.rep;have hl:((rows.take hi').drop lo).length=hi' - lo:=by rw[OX,Ou,O5 h2]
     refine⟨_,_,(vr.take hi').drop lo,sz,by rw[hl],?_,by rw[hl];exact harr',fun r hr=>hone r (OC (OM hr)),ot (FC hf _ _) (F.eY _ (F.dN _ hvr))⟩;rw[hl]
     cases ex<;>simp<;>omega
   ·cases h
  | ptr b v o=>simp[cY] at hf
  | rp b v sz i o=>simp[cY] at hf
  | mv b v=>simp[cY] at hf
  | yl b v=>simp[cY] at hf
  | fx rows=>simp[cY] at hf
  | mcl f fs cs=>simp[cY] at hf
end
section
variable {P:Program} {X:Tx} (hX:mA P X) {W:Bs} {cs0:List Frame} {f0:Nat} {r:xN} (hΓ:GOk X.Γ W.c)
variable {R:Type} {al:Al R} {T:R→Prop} (hb:u7 al T) {K:Cfg→R} (hK:∀g,T (K g)→Snd P W cs0 f0 r g)
 {O:Orc R} (hO:yq P X T O) {fin:D→List (Nat×B)→R} (hfin:∀d h,T (fin d h)→r d h)
section
variable {c:Cf} {Ow:Nat→Nat→Prop} {w:World} {f N nx:Nat} {s:List (Nat×D)} {k:List KI} {ds:List (Nat×Nat)} {gro:Option (Nat×Nat)} {gcs:List Fm} {gh:List (Nat×B)}
 {a:Act} {todo:List Item} {ro:Option Nat} {frs:List Frame}
include hb hK in
theorem tn {c1:Fm} {fr1:Frame} {d:D} {v:Value} {m:Machine} (h:T (na al K c1 d gcs gh nx)) (hfm:tB c c1 fr1) (hd:D.rep c d v) (hcs:Fms c gcs frs) (hp:Hp c Ow (lk gh) w) (hold:Old W c Ow w) (hbot:fS c1 gcs=f0)
  (hst:Steps P m (lone (fr1.finish v) (frs++cs0) w)):jJ P W cs0 f0 r m:=by
 obtain⟨a,todo,ro,rfl,hs,hk,hm,hro⟩:=hfm;unfold na at h
 split at h
 ·rename_i ops o l k hk0;obtain⟨h1,hx⟩:=aE hb h;clear h;rw[hk0] at hk;obtain⟨it,t',rfl,hit,hk⟩:=hk;obtain⟨i,il,rfl,ho,hil⟩:=yB hit;rw[jb ho] at hst;refine nI hK hx hst ⟨⟨a.put o.dst v,_,ro,rfl,hs.put h1 hd,⟨_,t',rfl,hil,hk⟩,?_,hro⟩,hcs,hp,hold,by rw[←hbot];exact eW⟩;have:(a.put o.dst v).defers=a.defers:=by cases o.dst<;>rfl
  rw[this];exact hm
 ·rename_i b v1 k hk0;rw[hk0] at hk;obtain⟨it,t',rfl,⟨g,rfl,hg⟩,hk⟩:=hk;rw[finish_atR_inRangeFunc] at hst;exact nI hK h hst ⟨⟨a,_,ro,rfl,hs,⟨_,t',rfl,⟨g,rfl,hg⟩,hk⟩,hm,hro⟩,hcs,hp,hold,by rw[←hbot];exact eW⟩
 ·exact(hb.bot h).elim
include hX hb hK hfin in
theorem Cs {m:Machine} (h:T (Ew al X fin K ⟨⟨f,N,s,k,ds,gro⟩,gcs,gh,nx⟩)) (hs:bN c N s a.tmps) (hm:bQ c ds a.defers) (hcs:Fms c gcs frs) (hp:Hp c Ow (lk gh) w) (hold:Old W c Ow w) (hbot:fS ⟨f,N,s,k,ds,gro⟩ gcs=f0)
  (hst:Steps P m (lone { (bF f none).atR a todo with mode:=.returning } (frs++cs0) w)):jJ P W cs0 f0 r m:=by
 unfold Ew at h
 split at h
 ·rename_i fi h1 hfi ht
  split at h
  ·rename_i dl hdl;obtain⟨w1,O1,hp1,hold1,hst1⟩:=uR (P:=P) (f:=f) (tmps:=a.tmps) (todo:=todo) (cs:=frs++cs0) ht hm hp hold;obtain⟨_,fn,hfn,hbd,hN,hrs⟩:=hX.fi _ _ hfi;have hXc:XOk P ⟨X.Q,0,X.E,X.Γ,fun _ _ _ _ _=>False,fun _=>GDr P X.Γ,N⟩:=⟨hX.E,(fun _ _ _ _ _ h=>h.elim),wI,C2,hX.mixed,hX.deep,hX.Q⟩
   have hIs:Is W ⟨N,[]⟩ ⟨s,h1⟩ ⟨a.tmps,[]⟩ w1 c O1:=⟨(bN.sl (a:=⟨a.tmps,[]⟩) hs),hp1,hold1⟩
   obtain⟨us,hu1,hu2⟩:=vz hXc hIs hdl;have hu3:=II hu2;have hres:(results fn a.tmps).run P w1=.ok (qC us) w1:=by
    rw[sY,show fn.results=fn.results.toList.toArray by simp,Sem.run_bind,List.mapM_toArray,Sem.run_map,hrs,hu1];simp only[Result.andThen_ok,Sem.run_pure]
    match us with
    | []=>simp[qC]
    | [u]=>simp[qC]
    | u :: u' :: l=>simp[qC]
   have hleave:Frame.leaving P { (bF f none).atR ⟨a.tmps,[]⟩ todo with mode:=.returning } w1 (.returned (qC us)):=⟨rfl,rfl,rfl,fn,hfn,hres⟩
   cases gcs with
   | nil=>
    have hcs:frs=[]:=hcs;subst hcs;exact⟨qC us,w1,_,qw dl,h1,c,O1,hst.trans hst1,hbot,hleave,hfin _ _ h,hu3,hp1,hold1⟩
   | cons c1 cs1=>
    simp only at h;obtain⟨fr1,frs1,rfl,hfm,hcs1⟩:=hcs;refine tn hb hK h hfm hu3 hcs1 hp1 hold1 hbot (hst.trans (hst1.trans (.one ?_)));exact step_leave_returned hleave
  ·exact(hb.bot h).elim
 ·exact(hb.bot h).elim
end
end
section
variable {P:Program} {X:Tx} (hX:mA P X) {W:Bs} {cs0:List Frame} {f0:Nat} {r:xN} (hΓ:GOk X.Γ W.c)
variable {R:Type} {al:Al R} {T:R→Prop} (hb:u7 al T) {K:Cfg→R} (hK:∀g,T (K g)→Snd P W cs0 f0 r g)
 {O:Orc R} (hO:yq P X T O) {fin:D→List (Nat×B)→R} (hfin:∀d h,T (fin d h)→r d h)
section
variable {c:Cf} {Ow:Nat→Nat→Prop} {w:World} {f N nx:Nat} {s:List (Nat×D)} {k:List KI} {ds:List (Nat×Nat)} {gro:Option (Nat×Nat)} {gcs:List Fm} {gh:List (Nat×B)}
 {a:Act} {todo:List Item} {ro:Option Nat} {frs:List Frame}
include hX hb hK hfin in
theorem nw {j:Option Code} (h:T (mj al X fin K ⟨⟨f,N,s,k,ds,gro⟩,gcs,gh,nx⟩ j)) (hs:bN c N s a.tmps) (hm:bQ c ds a.defers) (hro:lg c gro ro) (hcs:Fms c gcs frs) (hp:Hp c Ow (lk gh) w) (hold:Old W c Ow w) (hbot:fS ⟨f,N,s,k,ds,gro⟩ gcs=f0)
  (hret:(j=none∨j=some .ret)→step P (lone ((bF f none).atR a todo) (frs++cs0) w)=.next (lone { (bF f none).atR a todo with mode:=.returning } (frs++cs0) w))
  (hround:∀l v w' c1 cs,(Instr.endRound l j).run P w=.ok v w'→step P (lone ((bF f (some l)).atR a todo) (c1 :: cs) w)=.next (lone (c1.finish v) cs w')) :
  jJ P W cs0 f0 r (lone ((bF f ro).atR a todo) (frs++cs0) w):=by
 unfold mj at h
 cases gro with
 | none=>
  have hro:ro=none:=hro;subst hro;simp only at h
  split at h
  ·exact Cs hX hb hK hfin h hs hm hcs hp hold hbot (.one (hret (.inl rfl)))
  ·exact Cs hX hb hK hfin h hs hm hcs hp hold hbot (.one (hret (.inr rfl)))
  ·exact(hb.bot h).elim
 | some p=>
  obtain⟨b,v⟩:=p;obtain⟨g,rfl,hg⟩:=hro;simp only at h
  split at h
  ·rename_i v' L c1 cs1 hlp;obtain⟨h1,hx⟩:=aE hb h;clear h;have h1:=Nat.eq_of_beq_eq_true h1;subst h1;obtain⟨g',L',gd,e1,e2,e3,e4,e5,e6,e7,e8,e9,e10,e11,e12⟩:=hp.pc b _ hlp;have hg:c.ι b v=some (some ⟨g,0,none⟩,0,0):=hg;rw[hg] at e1
   cases e1;obtain⟨fr1,frs1,rfl,hfm,hcs1⟩:=hcs;have hr:=run_endRound (P:=P) j e3;obtain⟨O',hp',hold'⟩:=xW (o':=.loop { L' with state:=if j.isNone then .ready else .done,pending:=j }) (x':=.lp v { L with st:=bif j.isNone then 0 else 2,jR:=j }) hp hold hlp rfl e2 e3
    (fun w' hw'=>⟨g,_,gd,hg,e2,hw',by cases j<;>rfl,rfl,e6,e7,e8,e9,e10,e11,e12⟩)
   exact tn hb hK hx hfm (bc _) hcs1 hp' hold' hbot (.one (hround _ _ _ _ _ hr))
  ·exact(hb.bot h).elim
theorem C9{s:List (Nat×D)}{j:Nat}{d:D}(h:lk s j=some d):lk ((j,d) :: s)=lk s:=by
 funext i
 rw[cB]
 by_cases e:j=i
 ·subst e;rw[bY,h]
 ·rw[aK e]
include hb hO in
theorem vp{ops:Array Oper}{Kf:List (Nat×D)→List (Nat×B)→R}(G:CG):∀(l:List Oper) (i:Nat) (acc:List Ac) (s:List (Nat×D)) (h:List (Nat×B)) (σ:Sl'),(∀j,l[j]?=ops[i+j]?)→acc.length=i→lk s=σ→T (o7 al X O N nx ops Kf acc l s h)→
  ∃acs:List Ac,okD ops (acc.reverse++acs)=true∧vh ⟨X.Q,nx,X.E,X.Γ,G,GD2 P X,N⟩ ops (acc.reverse++acs) (fun σ η=>∃s' h',lk s'=σ∧lk h'=η∧T (Kf s' h')) (List.range' i l.length) σ (lk h)
 | [],i,acc,s,h,σ,hl,hi,es,ht=>by
  simp only[o7] at ht;obtain⟨h1,ht⟩:=aE hb ht;exact⟨[],by simpa using h1,⟨s,h,es,rfl,ht⟩⟩
 | o :: l,i,acc,s,h,σ,hl,hi,es,ht=>by
  have h0:ops[i]?=some o:=by simpa using (hl 0).symm
  have hl':∀j,l[j]?=ops[(i+1)+j]?:=fun j=>by have:=hl (j+1);simpa [P9,Nat.add_comm 1 j] using this
  simp only[o7] at ht;obtain⟨hd,ht⟩:=aE hb ht;have hd':DJ ⟨X.Q,nx,X.E,X.Γ,G,GD2 P X,N⟩ o.dst=true:=by cases hdst:o.dst<;>simp only[DJ]<;>(rw[hdst] at hd;exact hd)
  have fin:∀(ac:Ac) (d:D) (e:List (Nat×B)) (s:List (Nat×D)),ac.d=d→ac.e=e→lk s=σ→VA ⟨X.Q,nx,X.E,X.Γ,G,GD2 P X,N⟩ ops o ac σ (lk h)→T (o7 al X O N nx ops Kf (ac :: acc) l (nD s o.dst d) (e++h))→
    ∃acs:List Ac,okD ops (acc.reverse++acs)=true∧vh ⟨X.Q,nx,X.E,X.Γ,G,GD2 P X,N⟩ ops (acc.reverse++acs) (fun σ η=>∃s' h',lk s'=σ∧lk h'=η∧T (Kf s' h')) (List.range' i (l.length+1)) σ (lk h):=by
   intro ac d e s e1 e2 es hv hw;subst e1;subst e2;obtain⟨acs,g1,g2⟩:=vp G l (i+1) (ac :: acc) _ _ (apS o ac σ) hl' (by simp[hi]) (by
    unfold apS
    cases hdst:o.dst with
    | none=>exact es
    | some t=>show lk ((t,ac.d) :: s)=up σ t ac.d;rw[cB,es]) hw
   have e3:(ac :: acc).reverse++acs=acc.reverse++ac :: acs:=by simp
   rw[e3] at g1 g2;refine⟨ac :: acs,g1,?_⟩;rw[QA];refine⟨o,ac,h0,?_,hv,?_⟩
   ·rw[OL (by simp[hi])];simp[hi]
   ·rw[BT] at g2;exact g2
  have yes:∀{s:List (Nat×D)},lk s=σ→zU ⟨X.Q,nx,X.E,X.Γ,G,GD2 P X,N⟩ ops o σ→T (opG al X.E (lk h) (nx+o.dst.getD 0) X.Q (lS al X O true) (evD X.Γ s) o.op fun d rd e=>o7 al X O N nx ops Kf (.ex d rd e :: acc) l (nD s o.dst d) (e++h))→
    ∃acs:List Ac,okD ops (acc.reverse++acs)=true∧vh ⟨X.Q,nx,X.E,X.Γ,G,GD2 P X,N⟩ ops (acc.reverse++acs) (fun σ η=>∃s' h',lk s'=σ∧lk h'=η∧T (Kf s' h')) (List.range' i (l.length+1)) σ (lk h):=by
   intro s es hg ht;have h2:=Kb (T:=T) (G:=GD2 P X) hb (fun t η f l k h=>Hb hb hO h) ht;obtain⟨d,rd,e,g1,g2⟩:=sf Cy h2;refine fin (.ex d rd e) d e s rfl rfl es ⟨hd',hg,?_⟩ g1;have:=g2 (lk h) (evF X.Γ σ) (fun x _=>by rw[←es,KA]) (fun _ _=>rfl);exact this
  split at ht
  ·rename_i hg;exact yes es (by simp[zU,hg]) ht
  ·rename_i j want hg
   split at ht
   ·rename_i dj hj;obtain⟨hN,ht⟩:=aE hb ht
    split at ht
    ·rename_i b hbj;obtain⟨h1,h2⟩:=CN hb ht
     by_cases e:b=want
     ·subst e;have:=h1 (by cases b<;>rfl);refine yes (s:=(dj,.fr (.vl (.bool b))) :: s) (by rw[C9 hbj,es]) ?_ this;simp only[zU,hg];exact⟨dj,hj,hN,by rw[←es];exact hbj⟩
     ·have e':b=!want:=by cases b<;>cases want<;>simp_all
      have h2:=h2 (by rw[e'];cases want<;>rfl);rw[←e'] at h2;refine fin .sk Un [] _ rfl rfl (by rw[C9 hbj,es]) ⟨hd',?_⟩ h2;simp only[gno,hg];exact⟨dj,hj,hN,.inl (by rw[←es,hbj,e'])⟩
    ·rename_i vs hbj;refine fin .sk Un [] _ rfl rfl es ⟨hd',?_⟩ ht;simp only[gno,hg];exact⟨dj,hj,hN,.inr ⟨vs,by rw[←es];exact hbj⟩⟩
    ·exact(hb.bot ht).elim
   ·exact(hb.bot ht).elim
theorem xp{ops:Array Oper}(h:pv ops=true)(i:Nat)(o:Oper)(ho:ops[i]?=some o)(d:Call):o.op≠.defer d:=by
 unfold pv at h;rw[OF] at h;have:=h o (by
  have:=Array.mem_of_getElem? ho;simpa using this)
 intro e;rw[e] at this
 cases this
include hX hΓ hb hK hO in
theorem H5 {id:Nat} {ops:Array Oper} {t':List Item} (hnd:pv ops=true) (h:T (o7 al X O N nx ops (fun s h=>K ⟨⟨f,N,s,k,ds,gro⟩,gcs,h,nx+N⟩) [] ops.toList s gh))
  (hs:bN c N s a.tmps) (hm:bQ c ds a.defers) (hro:lg c gro ro) (hcs:Fms c gcs frs) (hp:Hp c Ow (lk gh) w) (hold:Old W c Ow w) (hbot:fS ⟨f,N,s,k,ds,gro⟩ gcs=f0) (hk:KIs c k t') :
  jJ P W cs0 f0 r (lone ((bF f ro).atR a (.code (.region id ops true) :: t')) (frs++cs0) w):=by
 obtain⟨acs,g1,g2⟩:=vp hb hO (fun _ _ _ _ _=>False) ops.toList 0 [] s gh (lk s) (fun j=>by simp) rfl rfl h;simp only[QS,OH] at g1 g2;have hXc:XOk P ⟨X.Q,nx,X.E,X.Γ,fun _ _ _ _ _=>False,GD2 P X,N⟩:=⟨hX.E,(fun _ _ _ _ _ h=>h.elim),EG hX,Cy,hX.mixed,hX.deep,hX.Q⟩
 have hIs:Is W ⟨N,a.defers⟩ ⟨s,gh⟩ a w c Ow:=⟨hs.sl,hp,hold⟩
 have hany:=zL (J:=fun c'=>c.le c') (Q:=fun e a' w'=>e=.normal∧∃σ η c' O',(∃s' h',lk s'=σ∧lk h'=η∧T (K ⟨⟨f,N,s',k,ds,gro⟩,gcs,h',nx+N⟩))∧IsF W ⟨N,a.defers⟩ σ η a' w' c' O'∧c.le c') (fun _ _ h1 h2=>h2.trans h1) (Cf.le.refl c) hXc hΓ rfl
  (fun σ η a w c' O' hj hk hf=>⟨rfl,σ,η,c',O',hk,hf,hj⟩) hIs g1 g2
 have hlist:=wpAny_sound ops.size (w.tape w.drawn (.order f id)) _ a _ hany;obtain⟨a',w',⟨σ,η,c',O',⟨s',h',rfl,rfl,hT⟩,hf,hle⟩,hst⟩:=uG (f:=f) (ro:=ro) (k:=t') (cs:=frs++cs0) (xp hnd) (N:=fun a' w'=>∃σ η c' O',(∃s' h',lk s'=σ∧lk h'=η∧T (K ⟨⟨f,N,s',k,ds,gro⟩,gcs,h',nx+N⟩))∧IsF W ⟨N,a.defers⟩ σ η a' w' c' O'∧c.le c') (fun e a w h=>h) _ a _ hlist;refine nI hK hT (.head ?_ hst) ⟨⟨a',t',ro,rfl,⟨hf.size,hf.get⟩,hk.le hle,by rw[hf.defers];exact hm.le hle,hro.le hle⟩,hcs.le hle,hf.hp,hf.old,by rw[←hbot];exact eW⟩;rw[stepR_region_draw];simp only[Region.schedule,hX.mixed,Bool.true_or,if_true];rfl
end
end
end Go.Km
end
