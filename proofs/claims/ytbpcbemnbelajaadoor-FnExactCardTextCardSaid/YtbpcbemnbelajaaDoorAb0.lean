/- What is asked of the world in which a law begins: nothing. Plain library text, no statement. -/
import Derived.Below
namespace Go.Ab
open Go Go.RowKit

def Glob (_ : World) : Prop := True
end Go.Ab
